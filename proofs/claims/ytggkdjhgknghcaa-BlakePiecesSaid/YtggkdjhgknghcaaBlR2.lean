/- The law BlakePieces: what it is handed, and the abstract machine's view of it. Without conditions. -/
import Derived.Test.YtggkdjhgknghcaaBlZ
import Derived.Test.YtggkdjhgknghcaaOpn
namespace Go.Proofs.Ytggkdjhgknghcaa.Bl
open Am Run Go.ChangeShapes Go.WideShapes

theorem empty_ok {W : World} (μ : List Am.Place) : RegOk μ W dflt ⟨[], .ro⟩ :=
  ⟨fun b k hin => by rcases hin with ⟨_, ⟨⟨e, he⟩, _⟩ | ⟨h1, h2⟩⟩ <;> simp_all; omega, fun k v hk => by simp at hk, trivial⟩
/-- A row of rows of bytes. -/
theorem open_rows {P : Program} {W : World} {H : Type} {enc : TypeId × Value → H} {sp : Nat → Bool} {held : Bool} {r : Reach} {b0 : Nat} {t e e2 : TypeId} {v : Value} {d : DataW H} {ps : List MemPlace}
    (ht : P.underlying t = some (.slice e)) (he : P.underlying e = some (.slice e2)) (he2 : P.underlying e2 = some (.int .u8)) (hc : P.cellsOf e = 1) (hc2 : P.cellsOf e2 = 1) (hval : Value.okWide P W r b0 t v) (h : DataW.Trod enc P W 0 sp held t v d ps) :
    ∃ (n : Nat) (b : Nat → List Int) (p : Nat → Am.Place) (p0 : Am.Place), (∀ i, ∀ y ∈ b i, (Lit.int .u8 y).wf = true) ∧ (∀ i (μ : List Am.Place), RegOk μ W (p i) ⟨(b i).map (.int .u8), .ro⟩) ∧
      (∀ (μ : List Am.Place) (j : Nat), μ[j]? = some p0 → VR μ (slR j n) v) ∧ (∀ μ : List Am.Place, (∀ i, i < 64 → μ[3 + i]? = some (p i)) → RegOk μ W p0 ⟨outC n b, .ro⟩) := by
  obtain ⟨a, len, cap, rfl⟩ := okWide_slice ht hval
  obtain ⟨fuel, hf⟩ := h
  rcases DataW.trod_slice ht hf with ⟨h1, -⟩ | ⟨a', len', cap', elems, rest, m, -, h1, -, -, hl, -, hlen, hel, -, -⟩
  · have e1 : Value.slice a len cap = .slice none 0 0 := by
      have : [Value.slice a len cap] = [.slice none 0 0] := h1
      simpa using this
    rw [e1]
    exact ⟨0, fun _ => [], fun _ => dflt, dflt, fun _ y hy => by simp at hy, fun _ μ => empty_ok μ, fun μ j _ => .slice0 _ _ _ _, fun μ _ => empty_ok μ⟩
  · have e1 : Value.slice a len cap = .slice (some a') len' cap' := by
      have : [Value.slice a len cap] = [.slice (some a') len' cap'] := h1
      simpa using this
    rw [e1]
    have each : ∀ i, ∃ x : List Int × Value × Am.Place, (∀ y ∈ x.1, (Lit.int .u8 y).wf = true) ∧ (∀ μ : List Am.Place, RegOk μ W x.2.2 ⟨x.1.map (.int .u8), .ro⟩) ∧
        (i < len' → (∀ (μ : List Am.Place) (j : Nat), μ[j]? = some x.2.2 → VR μ (slR j x.1.length) x.2.1) ∧ W.cell? (a'.add i) = some x.2.1) := by
      intro i
      by_cases hi : i < len'
      · have hx := hel i hi
        rw [List.getElem?_eq_getElem (by omega), Option.bind_eq_some_iff] at hx
        obtain ⟨cs, g1, g2⟩ := hx
        obtain ⟨dx, px⟩ := elems[i]
        obtain ⟨vi, l, k1, k2, ⟨p, k3, k4⟩, -⟩ := bytes_core he he2 hc2 g2
        subst k1
        rw [hc, Nat.mul_one] at g1
        exact ⟨(l, vi, p), k2, k4, fun _ => ⟨k3, cell_of_cells?_one g1⟩⟩
      · exact ⟨([], .slice none 0 0, dflt), fun y hy => by simp at hy, fun μ => empty_ok μ, fun h => absurd h hi⟩
    obtain ⟨f, hf2⟩ := Classical.skolem.1 each
    by_cases h0 : len' = 0
    · subst h0
      refine ⟨0, fun i => (f i).1, fun i => (f i).2.2, dflt, fun i => (hf2 i).1, fun i => (hf2 i).2.1, fun μ j _ => .slice0 _ _ _ _, fun μ _ => empty_ok μ⟩
    · have hsp : a'.spot = none := by
        have := ((hf2 0).2.2 (by omega)).2
        unfold Addr.add World.cell? at this
        cases hs : a'.spot with
        | none => rfl
        | some s => simp [hs] at this; split at this <;> cases this
      obtain ⟨bl, off, sp'⟩ := a'
      simp only at hsp
      subst hsp
      have hcell : ∀ i, i < len' → W.cell? ⟨bl, off + i, none⟩ = some (f i).2.1 := fun i hi => by
        have := ((hf2 i).2.2 hi).2
        rw [add_none] at this
        exact this
      have hblk : bl < W.heap.size := by
        have := hcell 0 (by omega)
        unfold World.cell? at this
        apply Decidable.byContradiction
        intro hge
        simp [Array.getElem?_eq_none (show W.heap.size ≤ bl by omega)] at this
      refine ⟨len', fun i => (f i).1, fun i => (f i).2.2, ⟨bl, off, 0, 0⟩, fun i => (hf2 i).1, fun i => (hf2 i).2.1, fun μ j hj => ?_, fun μ hμ => ⟨fun _ _ _ => hblk, fun k v hk => ?_, trivial⟩⟩
      · have := VR.slice (μ := μ) j 0 len' len' cap' _ hj hl
        simpa [slR] using this
      · simp only [outC] at hk
        have hkl : k < min len' 64 := by
          have := (List.getElem?_eq_some_iff.1 hk).1
          simpa using this
        rw [List.getElem?_map, List.getElem?_range hkl] at hk
        simp at hk
        subst hk
        exact ⟨_, hcell k (by omega), ((hf2 k).2.2 (by omega)).1 μ (3 + k) (hμ k (by omega))⟩
theorem pieces_good {W : World} {v0 v1 v2 : Value} {n0 : Int} {l1 : List Int} {n : Nat} {b : Nat → List Int} {p : Nat → Am.Place} {p0 : Am.Place} (a0 : ArgOk W v0 (fun _ => .int .i64 n0) none) (a1 : ArgOk W v1 (fun i => slR i l1.length) (some ⟨l1.map (.int .u8), .ro⟩))
    (h1 : ∀ i (μ : List Am.Place), RegOk μ W (p i) ⟨(b i).map (.int .u8), .ro⟩) (h2 : ∀ (μ : List Am.Place) (j : Nat), μ[j]? = some p0 → VR μ (slR j n) v2) (h3 : ∀ μ : List Am.Place, (∀ i, i < 64 → μ[3 + i]? = some (p i)) → RegOk μ W p0 ⟨outC n b, .ro⟩) :
    ∃ μ, VRs μ (aPi n0 l1.length n) [v0, v1, v2] ∧ Am.Good μ (sPi l1 n b []) W := by
  obtain ⟨q0, f0, _⟩ := a0
  obtain ⟨q1, f1, g1⟩ := a1
  obtain ⟨_, g1⟩ := g1 _ rfl
  have hp : ∀ i, i < 64 → (q0 :: q1 :: p0 :: (List.range 64).map p)[3 + i]? = some (p i) := fun i hi => by
    rw [show 3 + i = i + 1 + 1 + 1 from by omega]
    simp only [List.getElem?_cons_succ]
    rw [List.getElem?_map, List.getElem?_range hi]
    rfl
  have hreg : ∀ (i : Nat) (r : Reg) (pl : Am.Place), (sPi l1 n b [])[i]? = some (some r) → (q0 :: q1 :: p0 :: (List.range 64).map p)[i]? = some pl → r.kind = .ro ∧ RegOk (q0 :: q1 :: p0 :: (List.range 64).map p) W pl r := by
    intro i r pl hi hpl
    match i, hi, hpl with
    | 0, hi, _ => simp [sPi] at hi
    | 1, hi, hpl =>
      simp [sPi, byR] at hi hpl
      subst hi; subst hpl
      exact ⟨rfl, g1 _⟩
    | 2, hi, hpl =>
      simp [sPi] at hi hpl
      subst hi; subst hpl
      exact ⟨rfl, h3 _ hp⟩
    | i + 3, hi, hpl =>
      have hi64 : i < 64 := by
        have := (List.getElem?_eq_some_iff.1 hpl).1
        simp at this; omega
      rw [show i + 3 = 3 + i from by omega, sPi_in hi64] at hi
      rw [show i + 3 = 3 + i from by omega, hp i hi64] at hpl
      cases hi; cases hpl
      exact ⟨rfl, h1 i _⟩
  refine ⟨q0 :: q1 :: p0 :: (List.range 64).map p, ?_, ⟨?_, fun i r pl hi hpl => (hreg i r pl hi hpl).2, ?_⟩⟩
  · exact .cons (f0 _ 0 rfl) (.cons (f1 _ 1 rfl) (.cons (h2 _ 2 rfl) .nil))
  · rw [sPi_length]; simp
  · intro i j r r' q q' _ hi _ hq _ bb k hcv
    exact absurd (hreg i r q hi hq).1 hcv.1
theorem sPi_ro (key : List Int) (n : Nat) (b : Nat → List Int) : allRo (sPi key n b []) = true := by kernel_rfl
end Go.Proofs.Ytggkdjhgknghcaa.Bl
