/- This text holds a part of the machinery of the proof: a region that draws its order, seen as a table of what may have been run, and of what has come of it (numbered in one way). Without conditions. -/
import Derived.Test.YtggkdjhgknghcaaRun
namespace Go.Proofs.Ytggkdjhgknghcaa.Run
open Am
open Region (binds)

/-- The table: nodes, what is ahead of each, slots and memory there, where an operation leads to; what is told ahead; the numbers behind an operation. -/
structure TabD where
  nodes : List Nat
  lst : Nat → Array Bool
  lv : Nat → Nat
  t : Nat → List Value
  s : Nat → St
  nx : Nat → Nat → Nat
  ov : Nat → Nat → Option OvV
  ids : Nat → Nat → List Nat
  live : List Nat
  s0 : St
  last : Nat
def TabD.edges (D : TabD) (ops : Array Oper) : List (Nat × Nat) := D.nodes.flatMap fun k => (Region.ready .any ops (D.lst k)).map fun i => (k, i)
def TabD.chk (D : TabD) (ops : Array Oper) : Bool :=
  ((D.edges ops).all fun e => D.nodes.contains (D.nx e.1 e.2) && (D.lst (D.nx e.1 e.2) == (D.lst e.1).setIfInBounds e.2 true) && (D.lv (D.nx e.1 e.2) + 1 == D.lv e.1)) &&
  (D.nodes.all fun k => (Region.ready .any ops (D.lst k)).isEmpty == (k == D.last)) && (D.nodes.all fun k => D.lv k != 0 || k == D.last)
def TabD.step (D : TabD) (T : Tab) (O : Orc) (ops : Array Oper) (e : Nat × Nat) : Option (List Value × St) :=
  match ops[e.2]? with
  | some o => match (match D.ov e.1 e.2 with
      | some u => some (u.res (D.s e.1))
      | none => astep T O ops.toList o (D.t e.1) (D.s e.1)) with
    | some (v, s', _) => if fixOk 0 D.s0 (D.ids e.1 e.2) && nodupB (D.ids e.1 e.2) then
        match viewSlots (sigInv (D.ids e.1 e.2) s'.length) D.live 0 (aput o.dst v (D.t e.1)), viewSt (sigInv (D.ids e.1 e.2) s'.length) [] s' 0 (D.ids e.1 e.2) with
        | some t2, some s2 => some (t2, s2)
        | _, _ => none
      else none
    | none => none
  | none => none
def TabD.oweGo (D : TabD) (T : Tab) (O : Orc) (ops : Array Oper) : List (Nat × Nat) → Prop
  | [] => True
  | e :: r => match ops[e.2]?, D.ov e.1 e.2 with
    | some o, some u => ovOk T O ops.toList o (D.t e.1) (D.s e.1) u ∧ D.oweGo T O ops r
    | _, _ => D.oweGo T O ops r
theorem TabD.oweGo_mem {D : TabD} {T : Tab} {O : Orc} {ops : Array Oper} : ∀ {l : List (Nat × Nat)}, D.oweGo T O ops l → ∀ e ∈ l, ∀ o u, ops[e.2]? = some o → D.ov e.1 e.2 = some u → ovOk T O ops.toList o (D.t e.1) (D.s e.1) u := by
  intro l
  induction l with
  | nil => intro _ e he; cases he
  | cons a r ih =>
    intro h e he o u ho hu
    unfold TabD.oweGo at h
    rcases List.mem_cons.1 he with rfl | he
    · rw [ho, hu] at h
      exact h.1
    · split at h
      · exact ih h.2 e he o u ho hu
      · exact ih h e he o u ho hu
section
variable {P : Program} {T : Tab} (hT : TabOk P T) {O : Orc} (hO : OrcOk P O) {n b : Nat} {T0 : Nat → Nat → Prop} {w0 : World}
include hT hO in
theorem tab_wp {ops : Array Oper} {Q : Exit → Act → World → Prop} {D : TabD} (hc : D.chk ops = true) (hV : (D.edges ops).map (D.step T O ops) = (D.edges ops).map fun e => some (D.t (D.nx e.1 e.2), D.s (D.nx e.1 e.2)))
    (hP : D.oweGo T O ops (D.edges ops)) (hpl : ∀ k ∈ D.nodes, plainBut [] 0 (D.s k) = true) (hb : b ≤ D.s0.length) (hrow : ∀ (i : Nat) (r : Reg) (e : Nat), i < b → D.s0[i]? = some (some r) → r.kind ≠ .row e) :
    ∀ (fuel k : Nat) (μ : List Am.Place) (a : Act) (w : World), k ∈ D.nodes → D.lv k ≤ fuel → AR μ (D.t k) a → R n b T0 w0 μ (D.s k) w →
    (∀ μ' a' w', ExtU b μ μ' → AR μ' (D.t D.last) a' → R n b T0 w0 μ' (D.s D.last) w' → Q .normal a' w') → wpAny P .any ops Q fuel (D.lst k) a w := by
  unfold TabD.chk at hc
  simp only [Bool.and_eq_true, List.all_eq_true, beq_iff_eq] at hc
  obtain ⟨⟨hc1, hc2⟩, hc3⟩ := hc
  have hV' := List.map_inj_left.1 hV
  have hlast : ∀ {k : Nat}, k ∈ D.nodes → Region.ready .any ops (D.lst k) = [] → k = D.last := by
    intro k hk h
    have := hc2 k hk
    rw [h] at this
    simpa using this.symm
  intro fuel
  induction fuel with
  | zero =>
    intro k μ a w hk hf ha hR hQ
    have h3 := hc3 k hk
    have hl : k = D.last := by
      rcases Bool.or_eq_true_iff.1 h3 with h | h
      · simp at h; omega
      · simpa using h
    have h2 := hc2 k hk
    rw [hl] at h2
    simp at h2
    subst hl
    exact ⟨h2, hQ μ a w (ExtU.refl _ _) ha hR⟩
  | succ fuel ih =>
    intro k μ a w hk hf ha hR hQ
    refine ⟨fun h0 => ?_, fun i hi => ?_⟩
    · have := hlast hk h0
      subst this
      exact hQ μ a w (ExtU.refl _ _) ha hR
    · have he : (k, i) ∈ D.edges ops := List.mem_flatMap.2 ⟨k, hk, List.mem_map.2 ⟨i, hi, rfl⟩⟩
      obtain ⟨⟨g1, g2⟩, g3⟩ := hc1 _ he
      have hv := hV' _ he
      simp only at g1 g2 g3 hv
      unfold TabD.step at hv
      simp only at hv
      split at hv
      · rename_i o ho
        split at hv
        · rename_i v s' inf hst
          have hst' : astep T O ops.toList o (D.t k) (D.s k) = some (v, s', inf) := by
            split at hst
            · rename_i u hu
              exact (ovOk_step (TabD.oweGo_mem hP _ he o u ho hu)).trans hst
            · exact hst
          split at hv
          · rename_i hfx
            simp only [Bool.and_eq_true] at hfx
            split at hv
            · rename_i t2 s2 h1 h2
              cases hv
              refine astep_wp hT hO ho hst' ha hR fun μ' a' w' e1 e2 e3 => ?_
              have hm : D.nx k i ∈ D.nodes := by simpa using g1
              obtain ⟨μ2, f1, f2, f3⟩ := e3.view e2 hfx.1 hfx.2 hb hrow h1 h2 (hpl _ hm)
              rw [← g2]
              exact ih _ μ2 a' w' hm (by omega) f2 f3 fun μ3 a3 w3 q1 q2 q3 => hQ μ3 a3 w3 (((e1.upto b).trans f1).trans q1) q2 q3
            · cases hv
          · cases hv
        · cases hv
      · cases hv
end
/-- The region of this number. -/
def regAt (r : Nat) : Code → Option Code
  | .region id ops d => if id = r then some (.region id ops d) else none
  | .seq a b => match regAt r a with
    | some c => some c
    | none => regAt r b
  | .cond _ a b => match regAt r a with
    | some c => some c
    | none => regAt r b
  | .block _ c => regAt r c
  | .loop c => regAt r c
  | .scope c => regAt r c
  | _ => none
def regOf (r : Nat) (c : Code) : Code := (regAt r c).getD .skip
def opsOf : Code → Array Oper
  | .region _ ops _ => ops
  | _ => #[]
noncomputable def tabV (es : List Entry) (D : TabD) (ops : Array Oper) : List (Option (List Value × St)) := (D.edges ops).map (D.step T (orc es) ops)
noncomputable def tabE (D : TabD) (ops : Array Oper) : List (Option (List Value × St)) := (D.edges ops).map fun e => some (D.t (D.nx e.1 e.2), D.s (D.nx e.1 e.2))
noncomputable def tabP (es : List Entry) (D : TabD) (ops : Array Oper) : Prop := D.oweGo T (orc es) ops (D.edges ops)
theorem tab_runs {es : List Entry} (hes : ∀ e ∈ es, EntryOk Try.prog e) {c : Code} {id : Nat} {ops : Array Oper} (hcode : c = .region id ops true) {D : TabD} (hc : D.chk ops = true) (hV : tabV es D ops = tabE D ops) (hP : tabP es D ops) (hpl : ∀ k ∈ D.nodes, plainBut [] 0 (D.s k) = true)
    {k0 : Nat} (hk : k0 ∈ D.nodes) (hl : D.lst k0 = Array.replicate ops.size false) (hf : D.lv k0 ≤ ops.size) (hs : D.s k0 = D.s0 ++ [some ⟨[], .rw⟩]) : RunsP c (D.t k0) D.s0 .normal (D.t D.last) (D.s D.last) := by
  subst hcode
  refine ⟨?_⟩
  intro n b T0 w0 μ a w Q ha hR hQ
  have hR2 := hR.thin (kind := .rw) (esz := 0) (.inl rfl)
  refine wp_region_any hmix ?_
  rw [← hl]
  refine tab_wp hT (orc_ok hes) hc hV hP hpl hR.prot.1 (fun i r e hi hr => hR.prot.2 i r e hi hr) _ k0 _ _ _ hk hf (ha.mono (Ext.append _ _)) (by rw [hs]; exact hR2.drew rfl rfl rfl rfl) fun μ' a' w' q1 q2 q3 => hQ μ' a' w' (((Ext.append _ _).upto b).trans q1) q2 q3
end Go.Proofs.Ytggkdjhgknghcaa.Run
