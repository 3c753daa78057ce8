/- What a law is handed, and the abstract machine's view of it: without conditions. -/
import Derived.Test.YtgifhfoehmalcaaCal
import Derived.ChangeSlices
namespace Go.Proofs.Ytgifhfoehmalcaa.Run
open Am Go.ChangeShapes Go.WideShapes

/-- An argument, and what the abstract machine is told of it: the value (i: its region's number), its region. -/
def ArgOk (W : World) (v : Value) (a : Nat → Value) (r : Option Reg) : Prop :=
  ∃ p : Am.Place, (∀ (μ : List Am.Place) (i : Nat), μ[i]? = some p → VR μ (a i) v) ∧ ∀ g, r = some g → g.kind = .ro ∧ ∀ μ, RegOk μ W p g
theorem ArgOk.plain {W : World} {v : Value} (h : Am.plain v = true) : ArgOk W v (fun _ => v) none := ⟨dflt, fun _ _ _ => VR.plain h, fun _ h => by cases h⟩
/-- Bytes: what a slice of them holds. -/
theorem open_bytes {P : Program} {W : World} {H : Type} {enc : TypeId × Value → H} {sp : Nat → Bool} {held : Bool} {r : Reach} {b0 : Nat} {t e : TypeId} {k : IntKind} {v : Value} {d : DataW H} {ps : List MemPlace}
    (ht : P.underlying t = some (.slice e)) (he : P.underlying e = some (.int k)) (hc : P.cellsOf e = 1) (hval : Value.okWide P W r b0 t v) (h : DataW.Trod enc P W 0 sp held t v d ps) :
    ∃ l : List Int, (∀ n ∈ l, (Lit.int k n).wf = true) ∧ ArgOk W v (fun i => slR i l.length) (some ⟨l.map (.int k), .ro⟩) ∧ ((d = .nil ∧ l = []) ∨ ∃ s, d = .slice (lits k l) s) := by
  obtain ⟨a, len, cap, rfl⟩ := okWide_slice ht hval
  obtain ⟨fuel, hf⟩ := h
  rcases open_ints ht he hc hf with ⟨h1, h2⟩ | ⟨a', len', cap', zs, h1, -, hl, -, hz, hx, hcell, hwf⟩
  · have : a = none ∧ len = 0 ∧ cap = 0 := by simpa [Value.cells] using h1
    obtain ⟨rfl, rfl, rfl⟩ := this
    cases h2
    refine ⟨[], by simp, ⟨dflt, fun μ i _ => .slice0 _ _ _ _, fun g hg => ?_⟩, .inl ⟨rfl, rfl⟩⟩
    cases hg
    exact ⟨rfl, fun μ => ⟨fun b k hin => by rcases hin with ⟨_, ⟨⟨e, he⟩, _⟩ | ⟨h1, h2⟩⟩ <;> simp_all; omega, fun k v hk => by simp at hk, trivial⟩⟩
  · have : a = some a' ∧ len = len' ∧ cap = cap' := by simpa [Value.cells] using h1
    obtain ⟨rfl, rfl, rfl⟩ := this
    simp only [Prod.mk.injEq] at hx
    obtain ⟨hx, -⟩ := hx
    have hlz : len ≤ zs.length := by rw [hz]; split <;> omega
    have hlen : (zs.take len).length = len := by simp; omega
    refine ⟨zs.take len, fun n hn => hwf n (List.mem_of_mem_take hn), ?_, .inr ⟨_, hx⟩⟩
    rw [hlen]
    by_cases h0 : len = 0
    · subst h0
      refine ⟨dflt, fun μ i _ => .slice0 _ _ _ _, fun g hg => ?_⟩
      cases hg
      exact ⟨rfl, fun μ => ⟨fun b k hin => by rcases hin with ⟨_, ⟨⟨e, he⟩, _⟩ | ⟨h1, h2⟩⟩ <;> simp_all; omega, fun k v hk => by simp at hk, trivial⟩⟩
    · have hsp : a'.spot = none := by
        have := hcell 0 (by omega)
        unfold Addr.add World.cell? at this
        cases hs : a'.spot with
        | none => rfl
        | some s => simp [hs] at this; split at this <;> cases this
      obtain ⟨bl, off, sp'⟩ := a'
      simp only at hsp
      subst hsp
      have hc' : ∀ i, i < zs.length → W.cell? ⟨bl, off + i, none⟩ = some (.int k (zs.getD i 0)) := by
        intro i hi
        have := hcell i hi
        rw [add_none] at this
        exact this
      have hblk : ∀ i, i < zs.length → bl < W.heap.size := by
        intro i hi
        have := hc' i hi
        unfold World.cell? at this
        apply Decidable.byContradiction
        intro hge
        simp [Array.getElem?_eq_none (show W.heap.size ≤ bl by omega)] at this
      refine ⟨(⟨bl, off, 0, 0⟩ : Am.Place), fun μ i hp => ?_, fun g hg => ?_⟩
      · have := VR.slice (μ := μ) i 0 len len cap _ hp hl
        simpa [slR] using this
      · cases hg
        refine ⟨rfl, fun μ => ⟨fun b k hin => hblk 0 (by omega), fun j v hj => ?_, trivial⟩⟩
        have hjl := (List.getElem?_eq_some_iff.1 hj).1
        simp only [List.length_map, hlen] at hjl
        refine ⟨_, hc' j (by omega), ?_⟩
        have e : v = .int k (zs.getD j 0) := by
          simp only [List.getElem?_map, List.getElem?_take, if_pos hjl] at hj
          rw [List.getElem?_eq_getElem (show j < zs.length by omega)] at hj
          simp at hj
          rw [← hj, List.getD_eq_getElem?_getD, List.getElem?_eq_getElem (show j < zs.length by omega)]
          rfl
        rw [e]
        exact .int _ _

def argVals : Nat → List (Value × (Nat → Value) × Option Reg) → List Value
  | _, [] => []
  | i, x :: r => x.2.1 i :: argVals (i + 1) r
theorem args_good {W : World} (l : List (Value × (Nat → Value) × Option Reg)) (h : ∀ x ∈ l, ArgOk W x.1 x.2.1 x.2.2) : ∃ μ, VRs μ (argVals 0 l) (l.map (·.1)) ∧ Am.Good μ (l.map (·.2.2)) W := by
  have key : ∀ (l : List (Value × (Nat → Value) × Option Reg)), (∀ x ∈ l, ArgOk W x.1 x.2.1 x.2.2) → ∃ ps : List Am.Place, ps.length = l.length ∧
      (∀ (j : Nat) x p, l[j]? = some x → ps[j]? = some p → (∀ (μ : List Am.Place) (i : Nat), μ[i]? = some p → VR μ (x.2.1 i) x.1) ∧ ∀ g, x.2.2 = some g → g.kind = .ro ∧ ∀ μ, RegOk μ W p g) := by
    intro l
    induction l with
    | nil => intro _; exact ⟨[], rfl, fun j x p h => by simp at h⟩
    | cons x r ih =>
      intro h
      obtain ⟨ps, h1, h2⟩ := ih fun y hy => h y (by simp [hy])
      obtain ⟨p, hp1, hp2⟩ := h x (by simp)
      refine ⟨p :: ps, by simp [h1], fun j y q hy hq => ?_⟩
      cases j with
      | zero => simp at hy hq; subst hy; subst hq; exact ⟨hp1, hp2⟩
      | succ j => exact h2 j y q (by simpa using hy) (by simpa using hq)
  obtain ⟨μ, hl, hall⟩ := key l h
  have hvals : ∀ (l : List (Value × (Nat → Value) × Option Reg)) (i j : Nat), (argVals i l)[j]? = (l[j]?).map fun x => x.2.1 (i + j) := by
    intro l
    induction l with
    | nil => intro i j; simp [argVals]
    | cons x r ih =>
      intro i j
      cases j with
      | zero => simp [argVals]
      | succ j => simp only [argVals, List.getElem?_cons_succ, ih]; rw [show i + 1 + j = i + (j + 1) from by omega]
  have hvl : ∀ (l : List (Value × (Nat → Value) × Option Reg)) (i : Nat), (argVals i l).length = l.length := by
    intro l
    induction l with
    | nil => intro i; rfl
    | cons x r ih => intro i; simp [argVals, ih]
  refine ⟨μ, ⟨by rw [hvl]; simp, fun j x y hx hy => ?_⟩, ⟨by simp [hl], fun j r p hr hp => ?_, ?_⟩⟩
  · rw [hvals] at hx
    simp only [List.getElem?_map] at hy
    cases ha : l[j]? with
    | none => rw [ha] at hx; cases hx
    | some a =>
      rw [ha] at hx hy
      simp at hx hy
      subst hx; subst hy
      have hj : j < μ.length := by rw [hl]; exact (List.getElem?_eq_some_iff.1 ha).1
      exact (hall j a μ[j] ha (List.getElem?_eq_getElem hj)).1 μ j (List.getElem?_eq_getElem hj)
  · simp only [List.getElem?_map] at hr
    cases ha : l[j]? with
    | none => rw [ha] at hr; cases hr
    | some a =>
      rw [ha] at hr
      simp at hr
      exact ((hall j a p ha hp).2 r hr).2 μ
  · intro i j r r' p p' hij hi hj hp hp' b k hcv hin
    simp only [List.getElem?_map] at hi
    cases ha : l[i]? with
    | none => rw [ha] at hi; cases hi
    | some a =>
      rw [ha] at hi
      simp at hi
      exact absurd ((hall i a p ha hp).2 r hi).1 hcv.1
def argVs : Nat → List (Nat → Value) → List Value
  | _, [] => []
  | i, a :: r => a i :: argVs (i + 1) r
inductive ArgsOk (W : World) : List Value → List (Nat → Value) → St → Prop
  | nil : ArgsOk W [] [] []
  | cons {v a r vs bs rs} : ArgOk W v a r → ArgsOk W vs bs rs → ArgsOk W (v :: vs) (a :: bs) (r :: rs)
theorem args_good' {W : World} {vs : List Value} {bs : List (Nat → Value)} {rs : St} (h : ArgsOk W vs bs rs) : ∃ μ, VRs μ (argVs 0 bs) vs ∧ Am.Good μ rs W := by
  have key : ∃ l : List (Value × (Nat → Value) × Option Reg), l.map (·.1) = vs ∧ l.map (·.2.1) = bs ∧ l.map (·.2.2) = rs ∧ ∀ x ∈ l, ArgOk W x.1 x.2.1 x.2.2 := by
    induction h with
    | nil => exact ⟨[], rfl, rfl, rfl, fun x hx => by cases hx⟩
    | cons h _ ih =>
      obtain ⟨l, rfl, rfl, rfl, h4⟩ := ih
      refine ⟨(_, _, _) :: l, rfl, rfl, rfl, fun x hx => ?_⟩
      rcases List.mem_cons.1 hx with rfl | hx
      · exact h
      · exact h4 x hx
  obtain ⟨l, rfl, rfl, rfl, h4⟩ := key
  have e : ∀ (l : List (Value × (Nat → Value) × Option Reg)) (i : Nat), argVs i (l.map (·.2.1)) = argVals i l := by
    intro l
    induction l with
    | nil => intro i; rfl
    | cons x r ih => intro i; simp only [List.map_cons, argVs, argVals, ih]
  rw [e]
  exact args_good l h4
/-- How far a slice reaches. -/
theorem reach_of {H : Type} {d : DataW H} {k : IntKind} {l : List Int} {B R : Nat} (hd : (d = .nil ∧ l = []) ∨ ∃ s, d = .slice (lits k l) s) (h : ∀ s, d = .slice (lits k l) s → ((lits (H := H) k l).length + s.length) * B ≤ R) : l.length * B ≤ R := by
  rcases hd with ⟨_, rfl⟩ | ⟨s, hs⟩
  · simp
  · have := h s hs
    simp only [lits, List.length_map] at this
    rw [Nat.add_mul] at this
    omega
theorem intsN {P : Program} {t : TypeId} {kd : Nat → IntKind} {n m : Nat} (e : m = n) (h : Am.IntsAt P t kd n) : Am.IntsAt P t kd m := e ▸ h
theorem byte_of {n : Int} (h : (Lit.int .u8 n).wf = true) : 0 ≤ n ∧ n ≤ 255 := by
  have : IntKind.u8.min ≤ n ∧ n ≤ IntKind.u8.max := by simpa [Lit.wf] using h
  exact ⟨this.1, this.2⟩
end Go.Proofs.Ytgifhfoehmalcaa.Run
