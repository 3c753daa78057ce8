/- This text holds a part of the machinery of the proof: regions that draw their order and come to memories numbered in more than one way; each way is run to its end. Without conditions. -/
import Derived.Test.YtmpcmefokjlknaaRun
namespace Go.Proofs.Ytmpcmefokjlknaa.Run
open Am
open Region (binds)

def joinO {α : Type} : List (Option (List α)) → Option (List α)
  | [] => some []
  | none :: _ => none
  | some l :: r => match joinO r with
    | some m => some (l ++ m)
    | none => none
theorem joinO_mem {α : Type} : ∀ {ls : List (Option (List α))} {L : List α}, joinO ls = some L → ∀ x ∈ ls, ∃ l, x = some l ∧ ∀ y ∈ l, y ∈ L := by
  intro ls
  induction ls with
  | nil => intro L _ x hx; cases hx
  | cons a r ih =>
    intro L h x hx
    cases a with
    | none => cases h
    | some l =>
      simp only [joinO] at h
      split at h
      · rename_i m hm
        cases h
        rcases List.mem_cons.1 hx with rfl | hx
        · exact ⟨l, rfl, fun y hy => List.mem_append_left _ hy⟩
        · obtain ⟨l2, h1, h2⟩ := ih hm x hx
          exact ⟨l2, h1, fun y hy => List.mem_append_right _ (h2 y hy)⟩
      · cases h
/-- All that a region may come to, in whichever order. -/
def anyA (T : Tab) (O : Orc) (ops : Array Oper) : Nat → Array Bool → List Value → St → Option (List (List Value × St))
  | 0, listed, t, s => if (Region.ready .any ops listed).isEmpty then some [(t, s)] else none
  | fuel + 1, listed, t, s => match Region.ready .any ops listed with
    | [] => some [(t, s)]
    | i :: is => joinO ((i :: is).map fun i => match ops[i]? with
      | some o => match astep T O ops.toList o t s with
        | some (v, s', _) => anyA T O ops fuel (listed.setIfInBounds i true) (aput o.dst v t) s'
        | none => none
      | none => none)
section
variable {P : Program} {T : Tab} (hT : TabOk P T) {O : Orc} (hO : OrcOk P O) {n b : Nat} {T0 : Nat → Nat → Prop} {w0 : World}
include hT hO in
theorem any_wp {ops : Array Oper} {Q : Exit → Act → World → Prop} : ∀ (fuel : Nat) (listed : Array Bool) (t : List Value) (s : St) (L : List (List Value × St)) (μ : List Am.Place) (a : Act) (w : World), anyA T O ops fuel listed t s = some L → AR μ t a → R n b T0 w0 μ s w →
    (∀ x ∈ L, ∀ μ' a' w', Ext μ μ' → AR μ' x.1 a' → R n b T0 w0 μ' x.2 w' → Q .normal a' w') → wpAny P .any ops Q fuel listed a w := by
  intro fuel
  induction fuel with
  | zero =>
    intro listed t s L μ a w h ha hR hQ
    simp only [anyA] at h
    split at h
    · rename_i he
      cases h
      exact ⟨List.isEmpty_iff.1 he, hQ (t, s) (List.mem_singleton.2 rfl) μ a w (Ext.refl _) ha hR⟩
    · cases h
  | succ fuel ih =>
    intro listed t s L μ a w h ha hR hQ
    simp only [anyA] at h
    split at h
    · rename_i he
      cases h
      refine ⟨fun _ => hQ (t, s) (List.mem_singleton.2 rfl) μ a w (Ext.refl _) ha hR, fun i hi => ?_⟩
      rw [he] at hi; cases hi
    · rename_i i0 is he
      refine ⟨fun h0 => ?_, fun i hi => ?_⟩
      · rw [he] at h0; cases h0
      · rw [he] at hi
        obtain ⟨l, hl, hsub⟩ := joinO_mem h _ (List.mem_map.2 ⟨i, hi, rfl⟩)
        split at hl
        · rename_i o ho
          split at hl
          · rename_i v s' inf hst
            refine astep_wp hT hO ho hst ha hR fun μ' a' w' e1 e2 e3 => ?_
            exact ih _ _ _ _ μ' a' w' hl e2 e3 fun x hx μ2 a2 w2 f1 f2 f3 => hQ x (hsub x hx) μ2 a2 w2 (e1.trans f1) f2 f3
          · cases hl
        · cases hl
/-- A body, each way. -/
def exN (T : Tab) (O : Orc) (k : Nat) : Code → List Value → St → Option (List (AExit × List Value × St))
  | .region id ops draw, t, s => match ex T O noHint k (.region id ops draw) t s with
    | some r => some [r]
    | none => if draw then (match anyA T O ops ops.size (Array.replicate ops.size false) t s with
      | some l => some (l.map fun x => (.normal, x.1, x.2))
      | none => none) else none
  | .seq x y, t, s => match exN T O k x t s with
    | some l => joinO (l.map fun z => match z with
      | (.normal, t', s') => exN T O k y t' s'
      | r => some [r])
    | none => none
  | c, t, s => match ex T O noHint k c t s with
    | some r => some [r]
    | none => none
include hT hO in
theorem exN_one (hmix : P.follows .mixedOrders = true) {k : Nat} {c : Code} {t : List Value} {s : St} {L : List (AExit × List Value × St)} {μ : List Am.Place} {a : Act} {w : World} {Q : Exit → Act → World → Prop}
    (h : (match ex T O noHint k c t s with | some r => some [r] | none => none) = some L) (ha : AR μ t a) (hR : R n b T0 w0 μ s w) (hQ : ∀ x ∈ L, ∀ μ' a' w', ExtU b μ μ' → AR μ' x.2.1 a' → R n b T0 w0 μ' x.2.2 w' → Q x.1.real a' w') : c.wp P Q a w := by
  split at h
  · rename_i r hr
    cases h
    obtain ⟨e, t', s'⟩ := r
    exact (ex_runs hT hO hmix (exP_none hr trivial) hr).run ha hR (hQ _ (List.mem_singleton.2 rfl))
  · cases h
include hT hO in
theorem exN_wp (hmix : P.follows .mixedOrders = true) {k : Nat} : ∀ {c : Code} {t : List Value} {s : St} {L : List (AExit × List Value × St)} {μ : List Am.Place} {a : Act} {w : World} {Q : Exit → Act → World → Prop}, exN T O k c t s = some L → AR μ t a → R n b T0 w0 μ s w →
    (∀ x ∈ L, ∀ μ' a' w', ExtU b μ μ' → AR μ' x.2.1 a' → R n b T0 w0 μ' x.2.2 w' → Q x.1.real a' w') → c.wp P Q a w := by
  intro c
  induction c with
  | region id ops draw =>
    intro t s L μ a w Q h ha hR hQ
    simp only [exN] at h
    cases he : ex T O noHint k (.region id ops draw) t s with
    | some r => 
      rw [he] at h
      exact exN_one hT hO hmix (k := k) (by rw [he]; exact h) ha hR hQ
    | none =>
      rw [he] at h
      simp only at h
      cases draw with
      | false => simp at h
      | true =>
        simp only [if_true] at h
        split at h
        · rename_i l hl
          cases h
          refine wp_region_any hmix ?_
          exact any_wp hT hO _ _ _ _ _ μ a _ hl ha (hR.drew rfl rfl rfl rfl) fun x hx μ' a' w' e1 e2 e3 => hQ (.normal, x.1, x.2) (List.mem_map.2 ⟨x, hx, rfl⟩) μ' a' w' (e1.upto _) e2 e3
        · cases h
  | seq x y ihx ihy =>
    intro t s L μ a w Q h ha hR hQ
    simp only [exN] at h
    split at h
    · rename_i l hl
      refine wp_seq ?_
      refine ihx hl ha hR fun z hz μ' a' w' e1 e2 e3 => ?_
      obtain ⟨m, hm, hsub⟩ := joinO_mem h _ (List.mem_map.2 ⟨z, hz, rfl⟩)
      obtain ⟨e, t', s'⟩ := z
      cases e with
      | normal => exact ihy hm e2 e3 fun q hq μ2 a2 w2 f1 f2 f3 => hQ q (hsub q hq) μ2 a2 w2 (e1.trans f1) f2 f3
      | exit id => cases hm; exact hQ _ (hsub _ (List.mem_singleton.2 rfl)) μ' a' w' e1 e2 e3
      | ret => cases hm; exact hQ _ (hsub _ (List.mem_singleton.2 rfl)) μ' a' w' e1 e2 e3
    · cases h
  | _ =>
    intro t s L μ a w Q h ha hR hQ
    simp only [exN] at h
    exact exN_one hT hO hmix (k := k) h ha hR hQ
def fits (T : Tab) (rs : List ResultVar) (u : Bool) : AExit × List Value × St → Bool
  | (.exit _, _, _) => false
  | (.normal, t, s) => match aresults T rs t s with
    | some (.bool u') => u == u'
    | _ => false
  | (.ret, t, s) => match aresults T rs t s with
    | some (.bool u') => u == u'
    | _ => false
/-- A call without arguments comes to u, each way. -/
def goA (T : Tab) (O : Orc) (k : Nat) (c : Code) (ntmps : Nat) (rs : List ResultVar) (u : Bool) : Bool :=
  match exN T O k c (List.replicate ntmps undef) [] with
  | some L => L.all (fits T rs u)
  | none => false
theorem fits_spec {T : Tab} {rs : List ResultVar} {u : Bool} {e : AExit} {t : List Value} {s : St} (h : fits T rs u (e, t, s) = true) : (e = .normal ∨ e = .ret) ∧ aresults T rs t s = some (.bool u) := by
  have key : (match aresults T rs t s with
    | some (.bool u') => u == u'
    | _ => false) = true → aresults T rs t s = some (.bool u) := by
    intro hy
    split at hy
    · rename_i u' hu; rw [hu, eq_of_beq hy]
    · cases hy
  cases e with
  | exit j => cases h
  | normal => exact ⟨.inl rfl, key h⟩
  | ret => exact ⟨.inr rfl, key h⟩
end
section
variable {P : Program} {T : Tab} (hT : TabOk P T) {O : Orc} (hO : OrcOk P O)
include hT hO in
theorem goA_ok (hmix : P.follows .mixedOrders = true) {f : FuncId} {fn : Func} {c : Code} {k : Nat} {u : Bool} (hf : P.funcs[f]? = some fn) (hb : fn.body = some c) (h : goA T O k c fn.ntmps fn.results.toList u = true) : AC P f [] [] (.bool u) [] := by
  unfold goA at h
  split at h
  · rename_i L hL
    intro μ w rargs hargs hG
    refine calls_of_wp hf hb ?_
    have hr0 : rargs.size = 0 := by have := hargs.1; simpa using this.symm
    have ha : AR μ (List.replicate fn.ntmps undef) { tmps := rargs ++ Array.replicate (fn.ntmps - rargs.size) undef, defers := [] } := by
      refine ⟨?_, rfl⟩
      simp only [Array.toList_append, Array.toList_replicate, hr0, Nat.sub_zero, List.eq_nil_of_length_eq_zero (show rargs.toList.length = 0 by simpa using hr0), List.nil_append]
      refine VRs.ts ⟨rfl, fun i x y hx hy => ?_⟩
      have e1 := List.mem_of_getElem? hx
      have e2 := List.mem_of_getElem? hy
      simp at e1 e2
      rw [e1.2, e2.2]; exact .undef
    refine exN_wp hT hO hmix hL ha (R.start hG rfl) fun y hy μ' a' w' e1 e2 e3 => ?_
    have hy := List.all_eq_true.1 h y hy
    obtain ⟨e, t', s'⟩ := y
    obtain ⟨he, hv⟩ := fits_spec hy
    obtain ⟨r, h1, h2⟩ := aresults_sound hT e2 e3.good hv
    have hm : μ = [] := List.eq_nil_of_length_eq_zero (by rw [hG.len]; rfl)
    subst hm
    have hA : After [] [] w [] [] w' := ⟨⟨rfl, fun i r p hi => by simp at hi, fun i j r r' p p' hij hi => by simp at hi⟩, by
      rintro b k ⟨i, r, p, hi, _⟩
      simp at hi, (e3.after (by rfl)).frame, fun i r p _ hi => by simp at hi, fun i r hi => by simp at hi⟩
    rcases he with rfl | rfl
    · exact ⟨e2.defers, r, h1, [], r, rfl, VR.plain_any rfl h2, Ext.refl _, hA⟩
    · exact ⟨e2.defers, r, h1, [], r, rfl, VR.plain_any rfl h2, Ext.refl _, hA⟩
  · cases h
end
noncomputable def goNy (es : List Entry) (k : Nat) (fn : Func) (u : Bool) : Bool := goA T (orc es) k (body fn) fn.ntmps fn.results.toList u
theorem runNy_ok {es : List Entry} (hes : ∀ e ∈ es, EntryOk Try.prog e) {f : FuncId} {fn : Func} {k : Nat} {u : Bool} (hf : Try.prog.funcs[f]? = some fn) (hb : fn.body.isNone = false) (h : goNy es k fn u = true) : AC Try.prog f [] [] (.bool u) [] :=
  goA_ok hT (orc_ok hes) hmix hf (body_some hb) h
end Go.Proofs.Ytmpcmefokjlknaa.Run
