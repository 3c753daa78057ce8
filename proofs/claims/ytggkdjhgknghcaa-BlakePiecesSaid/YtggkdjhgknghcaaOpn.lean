/- What a law is handed, and the abstract machine's view of it: without conditions. -/
import Derived.Test.YtggkdjhgknghcaaCal
import Derived.ChangeSlices
import Derived.SizedLaws
namespace Go.Proofs.Ytggkdjhgknghcaa.Run
open Am Go.ChangeShapes Go.WideShapes

/-- An argument, and what the abstract machine is told of it: the value (i: its region's number), its region. -/
def ArgOk (W : World) (v : Value) (a : Nat → Value) (r : Option Reg) : Prop :=
  ∃ p : Am.Place, (∀ (μ : List Am.Place) (i : Nat), μ[i]? = some p → VR μ (a i) v) ∧ ∀ g, r = some g → g.kind = .ro ∧ ∀ μ, RegOk μ W p g
theorem ArgOk.plain {W : World} {v : Value} (h : Am.plain v = true) : ArgOk W v (fun _ => v) none := ⟨dflt, fun _ _ _ => VR.plain h, fun _ h => by cases h⟩
/-- Numbers: what a slice of them holds. -/
theorem bytes_core {P : Program} {W : World} {H : Type} {enc : TypeId × Value → H} {sp : Nat → Bool} {held : Bool} {t e : TypeId} {k : IntKind} {fuel : Nat} {cs : List Value} {d : DataW H} {ps : List MemPlace}
    (ht : P.underlying t = some (.slice e)) (he : P.underlying e = some (.int k)) (hc : P.cellsOf e = 1) (hf : DataW.trod enc P W 0 sp held fuel t cs = some (d, ps)) :
    ∃ (v : Value) (l : List Int), cs = [v] ∧ (∀ n ∈ l, (Lit.int k n).wf = true) ∧ (∃ p : Am.Place, (∀ (μ : List Am.Place) (i : Nat), μ[i]? = some p → VR μ (slR i l.length) v) ∧ ∀ μ, RegOk μ W p ⟨l.map (.int k), .ro⟩) ∧ ((d = .nil ∧ l = []) ∨ ∃ s, d = .slice (lits k l) s) := by
  rcases open_ints ht he hc hf with ⟨h1, h2⟩ | ⟨a', len, cap, zs, h1, -, hl, -, hz, hx, hcell, hwf⟩
  · subst h1
    cases h2
    refine ⟨_, [], rfl, by simp, ⟨dflt, fun μ i _ => .slice0 _ _ _ _, fun μ => ?_⟩, .inl ⟨rfl, rfl⟩⟩
    exact ⟨fun b k hin => by rcases hin with ⟨_, ⟨⟨e, he⟩, _⟩ | ⟨h1, h2⟩⟩ <;> simp_all; omega, fun k v hk => by simp at hk, trivial⟩
  · subst h1
    simp only [Prod.mk.injEq] at hx
    obtain ⟨hx, -⟩ := hx
    have hlz : len ≤ zs.length := by rw [hz]; split <;> omega
    have hlen : (zs.take len).length = len := by simp; omega
    refine ⟨_, zs.take len, rfl, fun n hn => hwf n (List.mem_of_mem_take hn), ?_, .inr ⟨_, hx⟩⟩
    rw [hlen]
    by_cases h0 : len = 0
    · subst h0
      refine ⟨dflt, fun μ i _ => .slice0 _ _ _ _, fun μ => ?_⟩
      exact ⟨fun b k hin => by rcases hin with ⟨_, ⟨⟨e, he⟩, _⟩ | ⟨h1, h2⟩⟩ <;> simp_all; omega, fun k v hk => by simp at hk, trivial⟩
    · have hsp : a'.spot = none := by
        have := hcell 0 (by omega)
        unfold Addr.add World.cell? at this
        cases hs : a'.spot with
        | none => rfl
        | some s => simp [hs] at this; split at this <;> cases this
      obtain ⟨bl, off, sp'⟩ := a'
      simp only at hsp
      subst hsp
      have hc' : ∀ i, i < zs.length → W.cell? ⟨bl, off + i, none⟩ = some (.int k (zs.getD i 0)) := by
        intro i hi
        have := hcell i hi
        rw [add_none] at this
        exact this
      have hblk : ∀ i, i < zs.length → bl < W.heap.size := by
        intro i hi
        have := hc' i hi
        unfold World.cell? at this
        apply Decidable.byContradiction
        intro hge
        simp [Array.getElem?_eq_none (show W.heap.size ≤ bl by omega)] at this
      refine ⟨(⟨bl, off, 0, 0⟩ : Am.Place), fun μ i hp => ?_, fun μ => ?_⟩
      · have := VR.slice (μ := μ) i 0 len len cap _ hp hl
        simpa [slR] using this
      · refine ⟨fun b k hin => hblk 0 (by omega), fun j v hj => ?_, trivial⟩
        have hjl := (List.getElem?_eq_some_iff.1 hj).1
        simp only [List.length_map, hlen] at hjl
        refine ⟨_, hc' j (by omega), ?_⟩
        have e : v = .int k (zs.getD j 0) := by
          simp only [List.getElem?_map, List.getElem?_take, if_pos hjl] at hj
          rw [List.getElem?_eq_getElem (show j < zs.length by omega)] at hj
          simp at hj
          rw [← hj, List.getD_eq_getElem?_getD, List.getElem?_eq_getElem (show j < zs.length by omega)]
          rfl
        rw [e]
        exact .int _ _
/-- Bytes: what a slice of them holds. -/
theorem open_bytes {P : Program} {W : World} {H : Type} {enc : TypeId × Value → H} {sp : Nat → Bool} {held : Bool} {r : Reach} {b0 : Nat} {t e : TypeId} {k : IntKind} {v : Value} {d : DataW H} {ps : List MemPlace}
    (ht : P.underlying t = some (.slice e)) (he : P.underlying e = some (.int k)) (hc : P.cellsOf e = 1) (hval : Value.okWide P W r b0 t v) (h : DataW.Trod enc P W 0 sp held t v d ps) :
    ∃ l : List Int, (∀ n ∈ l, (Lit.int k n).wf = true) ∧ ArgOk W v (fun i => slR i l.length) (some ⟨l.map (.int k), .ro⟩) ∧ ((d = .nil ∧ l = []) ∨ ∃ s, d = .slice (lits k l) s) := by
  obtain ⟨a, len, cap, rfl⟩ := okWide_slice ht hval
  obtain ⟨fuel, hf⟩ := h
  obtain ⟨v, l, h1, h2, ⟨p, h3, h4⟩, h5⟩ := bytes_core ht he hc hf
  have e1 : v = .slice a len cap := by
    have : [Value.slice a len cap] = [v] := h1
    simpa using this.symm
  subst e1
  exact ⟨l, h2, ⟨p, h3, fun g hg => by cases hg; exact ⟨rfl, h4⟩⟩, h5⟩
/-- A number, a slice of bytes, a number. -/
theorem open_cut {P : Program} {W : World} {H : Type} {enc : TypeId × Value → H} {sp : Nat → Bool} {held : Bool} {r : Reach} {b0 : Nat} {t e : TypeId} {f0 f1 f2 : Field} {v : Value} {d : DataW H} {ps : List MemPlace}
    (ht : P.underlying t = some (.struct #[f0, f1, f2])) (h0 : P.underlying f0.type = some (.int .i64)) (h1 : P.underlying f1.type = some (.slice e)) (he : P.underlying e = some (.int .u8)) (h2 : P.underlying f2.type = some (.int .i64))
    (hc : P.cellsOf e = 1) (c0 : P.cellsOf f0.type = 1) (c1 : P.cellsOf f1.type = 1) (c2 : P.cellsOf f2.type = 1) (o0 : f0.offset = 0) (o1 : f1.offset = 1) (o2 : f2.offset = 2) (hn : P.cellsOf t = 3)
    (hval : Value.okWide P W r b0 t v) (h : DataW.Trod enc P W 0 sp held t v d ps) :
    ∃ (n : Int) (l : List Int) (m : Int), (Lit.int .i64 n).wf = true ∧ (∀ x ∈ l, (Lit.int .u8 x).wf = true) ∧ (Lit.int .i64 m).wf = true ∧ ArgOk W v (fun i => .agg #[.int .i64 n, slR i l.length, .int .i64 m]) (some ⟨l.map (.int .u8), .ro⟩) ∧
      ∃ d1, d = .agg [.lit (.int .i64 n), d1, .lit (.int .i64 m)] ∧ ((d1 = .nil ∧ l = []) ∨ ∃ s, d1 = .slice (lits .u8 l) s) := by
  obtain ⟨cs, rfl, hsz, _⟩ : ∃ cs, v = .agg cs ∧ cs.size = P.cellsOf t ∧ Row.okWide P W r b0 t cs := by
    unfold Value.okWide at hval
    rw [ht] at hval
    exact hval
  obtain ⟨fuel, hf⟩ := h
  obtain ⟨xs, n, _, hx, hl, hlen, hall⟩ := DataW.trod_struct ht hf
  rw [hn] at hsz
  obtain ⟨a, b, c, rfl⟩ : ∃ a b c, cs = #[a, b, c] := by
    obtain ⟨l⟩ := cs
    match l, hsz with
    | [a, b, c], _ => exact ⟨a, b, c, rfl⟩
  match xs, hlen with
  | [y0, y1, y2], _ =>
    have g0 := hall 0 f0 rfl
    have g1 := hall 1 f1 rfl
    have g2 := hall 2 f2 rfl
    rw [o0, c0] at g0
    rw [o1, c1] at g1
    rw [o2, c2] at g2
    obtain ⟨n0, e0, z0, w0⟩ := DataW.trod_int h0 (show DataW.trod enc P W 0 sp held n f0.type [a] = some y0 from g0)
    obtain ⟨n2, e2, z2, w2⟩ := DataW.trod_int h2 (show DataW.trod enc P W 0 sp held n f2.type [c] = some y2 from g2)
    obtain ⟨d1, p1⟩ := y1
    obtain ⟨v1, l, e1, w1, ⟨p, q1, q2⟩, hd⟩ := bytes_core h1 he hc (show DataW.trod enc P W 0 sp held n f1.type [b] = some (d1, p1) from g1)
    simp only [List.cons.injEq, and_true] at e0 e1 e2
    subst e0; subst e1; subst e2
    subst z0; subst z2
    simp only [Prod.mk.injEq] at hx
    refine ⟨n0, l, n2, w0, w1, w2, ⟨p, fun μ i hp => ?_, fun g hg => by cases hg; exact ⟨rfl, q2⟩⟩, d1, hx.1, hd⟩
    have := VRs.agg (VRs.cons (VR.int (μ := μ) .i64 n0) (VRs.cons (q1 μ i hp) (VRs.cons (VR.int .i64 n2) VRs.nil)))
    exact this
/-- How far a slice within a struct reaches. -/
theorem sized_in {H : Type} {P : Program} {ts : List TypeId} {ds : List (DataW H)} (h : (DataW.weightsEach P ts ds).all (· ≤ reachBytes) = true) {j k : Nat} {t u e : TypeId} {fs : Array Field} {parts elems spare : List (DataW H)} (ht : ts[j]? = some t) (hd : ds[j]? = some (.agg parts))
    (hu : P.underlying t = some (.struct fs)) (hk : (fs.toList.map (·.type))[k]? = some u) (hp : parts[k]? = some (.slice elems spare)) (he : P.underlying u = some (.slice e)) : (elems.length + spare.length) * P.bytesOf e ≤ reachBytes := by
  have h1 : (elems.length + spare.length) * P.bytesOf e ∈ DataW.weightsEach P (fs.toList.map (·.type)) parts := DataW.weights_mem_each hk hp _ (by simp [DataW.weights, he])
  have := List.all_eq_true.1 h _ (DataW.weights_mem_each ht hd ((elems.length + spare.length) * P.bytesOf e) (by simpa [DataW.weights, hu] using h1))
  simpa using this

def argVals : Nat → List (Value × (Nat → Value) × Option Reg) → List Value
  | _, [] => []
  | i, x :: r => x.2.1 i :: argVals (i + 1) r
theorem args_good {W : World} (l : List (Value × (Nat → Value) × Option Reg)) (h : ∀ x ∈ l, ArgOk W x.1 x.2.1 x.2.2) : ∃ μ, VRs μ (argVals 0 l) (l.map (·.1)) ∧ Am.Good μ (l.map (·.2.2)) W := by
  have key : ∀ (l : List (Value × (Nat → Value) × Option Reg)), (∀ x ∈ l, ArgOk W x.1 x.2.1 x.2.2) → ∃ ps : List Am.Place, ps.length = l.length ∧
      (∀ (j : Nat) x p, l[j]? = some x → ps[j]? = some p → (∀ (μ : List Am.Place) (i : Nat), μ[i]? = some p → VR μ (x.2.1 i) x.1) ∧ ∀ g, x.2.2 = some g → g.kind = .ro ∧ ∀ μ, RegOk μ W p g) := by
    intro l
    induction l with
    | nil => intro _; exact ⟨[], rfl, fun j x p h => by simp at h⟩
    | cons x r ih =>
      intro h
      obtain ⟨ps, h1, h2⟩ := ih fun y hy => h y (by simp [hy])
      obtain ⟨p, hp1, hp2⟩ := h x (by simp)
      refine ⟨p :: ps, by simp [h1], fun j y q hy hq => ?_⟩
      cases j with
      | zero => simp at hy hq; subst hy; subst hq; exact ⟨hp1, hp2⟩
      | succ j => exact h2 j y q (by simpa using hy) (by simpa using hq)
  obtain ⟨μ, hl, hall⟩ := key l h
  have hvals : ∀ (l : List (Value × (Nat → Value) × Option Reg)) (i j : Nat), (argVals i l)[j]? = (l[j]?).map fun x => x.2.1 (i + j) := by
    intro l
    induction l with
    | nil => intro i j; simp [argVals]
    | cons x r ih =>
      intro i j
      cases j with
      | zero => simp [argVals]
      | succ j => simp only [argVals, List.getElem?_cons_succ, ih]; rw [show i + 1 + j = i + (j + 1) from by omega]
  have hvl : ∀ (l : List (Value × (Nat → Value) × Option Reg)) (i : Nat), (argVals i l).length = l.length := by
    intro l
    induction l with
    | nil => intro i; rfl
    | cons x r ih => intro i; simp [argVals, ih]
  refine ⟨μ, ⟨by rw [hvl]; simp, fun j x y hx hy => ?_⟩, ⟨by simp [hl], fun j r p hr hp => ?_, ?_⟩⟩
  · rw [hvals] at hx
    simp only [List.getElem?_map] at hy
    cases ha : l[j]? with
    | none => rw [ha] at hx; cases hx
    | some a =>
      rw [ha] at hx hy
      simp at hx hy
      subst hx; subst hy
      have hj : j < μ.length := by rw [hl]; exact (List.getElem?_eq_some_iff.1 ha).1
      exact (hall j a μ[j] ha (List.getElem?_eq_getElem hj)).1 μ j (List.getElem?_eq_getElem hj)
  · simp only [List.getElem?_map] at hr
    cases ha : l[j]? with
    | none => rw [ha] at hr; cases hr
    | some a =>
      rw [ha] at hr
      simp at hr
      exact ((hall j a p ha hp).2 r hr).2 μ
  · intro i j r r' p p' hij hi hj hp hp' b k hcv hin
    simp only [List.getElem?_map] at hi
    cases ha : l[i]? with
    | none => rw [ha] at hi; cases hi
    | some a =>
      rw [ha] at hi
      simp at hi
      exact absurd ((hall i a p ha hp).2 r hi).1 hcv.1
def argVs : Nat → List (Nat → Value) → List Value
  | _, [] => []
  | i, a :: r => a i :: argVs (i + 1) r
inductive ArgsOk (W : World) : List Value → List (Nat → Value) → St → Prop
  | nil : ArgsOk W [] [] []
  | cons {v a r vs bs rs} : ArgOk W v a r → ArgsOk W vs bs rs → ArgsOk W (v :: vs) (a :: bs) (r :: rs)
theorem args_good' {W : World} {vs : List Value} {bs : List (Nat → Value)} {rs : St} (h : ArgsOk W vs bs rs) : ∃ μ, VRs μ (argVs 0 bs) vs ∧ Am.Good μ rs W := by
  have key : ∃ l : List (Value × (Nat → Value) × Option Reg), l.map (·.1) = vs ∧ l.map (·.2.1) = bs ∧ l.map (·.2.2) = rs ∧ ∀ x ∈ l, ArgOk W x.1 x.2.1 x.2.2 := by
    induction h with
    | nil => exact ⟨[], rfl, rfl, rfl, fun x hx => by cases hx⟩
    | cons h _ ih =>
      obtain ⟨l, rfl, rfl, rfl, h4⟩ := ih
      refine ⟨(_, _, _) :: l, rfl, rfl, rfl, fun x hx => ?_⟩
      rcases List.mem_cons.1 hx with rfl | hx
      · exact h
      · exact h4 x hx
  obtain ⟨l, rfl, rfl, rfl, h4⟩ := key
  have e : ∀ (l : List (Value × (Nat → Value) × Option Reg)) (i : Nat), argVs i (l.map (·.2.1)) = argVals i l := by
    intro l
    induction l with
    | nil => intro i; rfl
    | cons x r ih => intro i; simp only [List.map_cons, argVs, argVals, ih]
  rw [e]
  exact args_good l h4
/-- How far a slice reaches. -/
theorem reach_of {H : Type} {d : DataW H} {k : IntKind} {l : List Int} {B R : Nat} (hd : (d = .nil ∧ l = []) ∨ ∃ s, d = .slice (lits k l) s) (h : ∀ s, d = .slice (lits k l) s → ((lits (H := H) k l).length + s.length) * B ≤ R) : l.length * B ≤ R := by
  rcases hd with ⟨_, rfl⟩ | ⟨s, hs⟩
  · simp
  · have := h s hs
    simp only [lits, List.length_map] at this
    rw [Nat.add_mul] at this
    omega
theorem intsN {P : Program} {t : TypeId} {kd : Nat → IntKind} {n m : Nat} (e : m = n) (h : Am.IntsAt P t kd n) : Am.IntsAt P t kd m := e ▸ h
theorem byte_of {n : Int} (h : (Lit.int .u8 n).wf = true) : 0 ≤ n ∧ n ≤ 255 := by
  have : IntKind.u8.min ≤ n ∧ n ≤ IntKind.u8.max := by simpa [Lit.wf] using h
  exact ⟨this.1, this.2⟩
end Go.Proofs.Ytggkdjhgknghcaa.Run
