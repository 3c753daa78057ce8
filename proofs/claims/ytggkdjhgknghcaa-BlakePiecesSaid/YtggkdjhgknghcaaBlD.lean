/- A digest, plainly: what a hash holds behind bytes, and what it tells. Without conditions. -/
import Derived.Test.YtggkdjhgknghcaaBlO
namespace Go.Proofs.Ytggkdjhgknghcaa.Bl
open Am Run IntWalk

/-- The numbers behind q blocks that are not the last. -/
def blks (w : Int → Int → Int → Int → Int) (h : V8) (x : List Int) : Nat → V8
  | 0 => h
  | q + 1 => comp (blks w h x q) (words w (fun i => x.getD (64 * q + i) 0)) ((64 * (q + 1) : Nat) : Int) false
theorem blks_succ (w : Int → Int → Int → Int → Int) (h : V8) (x : List Int) (q : Nat) : blks w h x (q + 1) = comp (blks w h x q) (words w (fun i => x.getD (64 * q + i) 0)) ((64 * (q + 1) : Nat) : Int) false := rfl
def lastQ (x : List Int) : Nat := (x.length - 1) / 64
/-- A digest's numbers, of a start and all bytes. -/
def Dn (w : Int → Int → Int → Int → Int) (h : V8) (x : List Int) : V8 := comp (blks w h x (lastQ x)) (words w (fun i => x.getD (64 * lastQ x + i) 0)) (x.length : Int) true
/-- A digest's 32 bytes, of a start and all bytes. -/
def D (w : Int → Int → Int → Int → Int) (h : V8) (x : List Int) : List Int := out8 (Dn w h x)
theorem getD_app_l {x y : List Int} {i : Nat} (h : i < x.length) : (x ++ y).getD i 0 = x.getD i 0 := by
  rw [List.getD_eq_getElem?_getD, List.getElem?_append_left h, ← List.getD_eq_getElem?_getD]
theorem getD_app_r {x y : List Int} {i : Nat} (h : x.length ≤ i) : (x ++ y).getD i 0 = y.getD (i - x.length) 0 := by
  rw [List.getD_eq_getElem?_getD, List.getElem?_append_right h, ← List.getD_eq_getElem?_getD]
theorem getD_out {x : List Int} {i : Nat} (h : x.length ≤ i) : x.getD i 0 = 0 := by
  rw [List.getD_eq_getElem?_getD, List.getElem?_eq_none h]; rfl
theorem blks_app (w : Int → Int → Int → Int → Int) (h : V8) (x y : List Int) : ∀ q, 64 * q ≤ x.length → blks w h (x ++ y) q = blks w h x q := by
  intro q
  induction q with
  | zero => intro _; rfl
  | succ q ih =>
    intro hq
    rw [blks_succ, blks_succ, ih (by omega), words_congr (B := fun i => (x ++ y).getD (64 * q + i) 0) (C := fun i => x.getD (64 * q + i) 0) fun i hi => getD_app_l (by omega)]
/-- What a hash holds that has taken x in. -/
structure Has (h : V8) (x : List Int) (H : HS) : Prop where
  ex : ∃ q n : Nat, x.length = 64 * q + n ∧ n ≤ 64 ∧ (n = 0 → q = 0) ∧ H.n = (n : Int) ∧ H.t = ((64 * q : Nat) : Int) ∧ H.h = blks wordO h x q ∧ ∀ i, i < n → H.blk i = x.getD (64 * q + i) 0
theorem wrap64 {n : Nat} (h : n ≤ 2 ^ 62) : IntKind.u64.wrap (n : Int) = (n : Int) := u64_in _ (by omega)
/-- Some more, where there is room. -/
theorem Has.some {h : V8} {x : List Int} {H : HS} {q n k : Nat} {l : List Int} (h1 : x.length = 64 * q + n) (h3 : n = 0 → q = 0) (h5 : H.t = ((64 * q : Nat) : Int)) (h6 : H.h = blks wordO h x q) (h7 : ∀ i, i < n → H.blk i = x.getD (64 * q + i) 0)
    (hk : n + k ≤ 64) (hkl : k ≤ l.length) : Has h (x ++ l.take k) (take1 H n k l) := by
  have hl : (l.take k).length = k := by simp; omega
  refine ⟨q, n + k, by rw [List.length_append, hl]; omega, hk, by omega, rfl, h5, ?_, fun i hi => ?_⟩
  · show H.h = _
    rw [h6, blks_app _ _ _ _ _ (by omega)]
  · show put H.blk n k (fun i => l.getD i 0) i = _
    unfold put
    split
    · rw [getD_app_r (by omega)]
      show l.getD (i - n) 0 = _
      rw [List.getD_eq_getElem?_getD, List.getD_eq_getElem?_getD, List.getElem?_take, if_pos (by omega)]
      congr 2; omega
    · rw [getD_app_l (by omega)]
      exact h7 i (by omega)
theorem absorbF_has {h : V8} : ∀ (f : Nat) {x : List Int} {H : HS} {l : List Int}, Has h x H → l.length < f → x.length + l.length ≤ 2 ^ 60 → Has h (x ++ l) (absorbF f H l) := by
  intro f
  induction f with
  | zero => intro x H l _ hf; omega
  | succ f ih =>
    intro x H l hh hf hs
    unfold absorbF
    split
    · rename_i h0
      rw [List.length_eq_zero_iff.1 h0, List.append_nil]; exact hh
    · rename_i h0
      obtain ⟨q, n, h1, h2, h3, h4, h5, h6, h7⟩ := hh.ex
      rw [h4]
      split
      · rename_i h64
        have hn : n = 64 := by omega
        subst hn
        obtain ⟨k, hk⟩ : ∃ k, k = min l.length 64 := ⟨_, rfl⟩
        rw [← hk]
        have hf1 : Has h (x ++ l.take k) (take1 (fill1 H) 0 k l) := by
          have ht : (fill1 H).t = ((64 * (q + 1) : Nat) : Int) := by
            show IntKind.u64.wrap (H.t + IntKind.u64.wrap 64) = _
            rw [show IntKind.u64.wrap 64 = 64 from rfl, h5, show ((64 * q : Nat) : Int) + 64 = ((64 * (q + 1) : Nat) : Int) from by omega, wrap64 (by omega)]
          have hl : (l.take k).length = k := by simp; omega
          refine ⟨q + 1, k, by rw [List.length_append, hl]; omega, by omega, by omega, ?_, ht, ?_, fun i hi => ?_⟩
          · show ((0 + k : Nat) : Int) = _
            rw [Nat.zero_add]
          · show comp H.h (words wordO H.blk) (fill1 H).t false = _
            rw [ht, h6, blks_app _ _ _ _ _ (by omega)]
            rw [blks_succ, words_congr (B := H.blk) (C := fun i => x.getD (64 * q + i) 0) h7]
          · show put (fill1 H).blk 0 k (fun i => l.getD i 0) i = _
            unfold put
            rw [if_pos (by omega), getD_app_r (by omega)]
            show l.getD (i - 0) 0 = _
            rw [List.getD_eq_getElem?_getD, List.getD_eq_getElem?_getD, List.getElem?_take, if_pos (by omega)]
            congr 2; omega
        have := ih (l := l.drop k) hf1 (by simp; omega) (by simp; omega)
        rw [List.append_assoc, List.take_append_drop] at this
        exact this
      · rename_i h64
        simp only [Int.toNat_natCast]
        obtain ⟨k, hk⟩ : ∃ k, k = min l.length (64 - n) := ⟨_, rfl⟩
        rw [← hk]
        have hf1 : Has h (x ++ l.take k) (take1 H n k l) := Has.some h1 h3 h5 h6 h7 (by omega) (by omega)
        have := ih (l := l.drop k) hf1 (by simp; omega) (by simp; omega)
        rw [List.append_assoc, List.take_append_drop] at this
        exact this
theorem absorb_has {h : V8} {x : List Int} {H : HS} {l : List Int} (hh : Has h x H) (hs : x.length + l.length ≤ 2 ^ 60) : Has h (x ++ l) (absorb H l) := absorbF_has _ hh (by omega) hs
theorem sumL_has {h : V8} {x : List Int} {H : HS} (hh : Has h x H) (hs : x.length ≤ 2 ^ 60) : sumL H = D wordO h x := by
  obtain ⟨q, n, h1, h2, h3, h4, h5, h6, h7⟩ := hh.ex
  have hq : lastQ x = q := by unfold lastQ; omega
  unfold sumL D Dn
  rw [hq]
  congr 1
  show comp H.h (words wordO (put H.blk H.n.toNat (64 - H.n.toNat) (fun _ => 0))) (IntKind.u64.wrap (H.t + IntKind.u64.wrap H.n)) true = _
  rw [h4, Int.toNat_natCast, h5, h6, wrap64 (by omega), ← Int.natCast_add, wrap64 (by omega), h1]
  rw [words_congr (C := fun i => x.getD (64 * q + i) 0) fun i hi => ?_]
  unfold put
  split
  · rw [getD_out (by omega)]
  · exact h7 i (by omega)
/-- A key's block. -/
def keyB (key : List Int) : List Int := if key.length = 0 then [] else key ++ List.replicate (64 - key.length) 0
theorem newH_has {size : Int} {key : List Int} (h : key.length ≤ 32) : Has (h0 size key.length) (keyB key) (newH size key) := by
  unfold newH keyB
  split
  · rename_i h0
    refine ⟨0, 0, rfl, by omega, fun _ => rfl, rfl, rfl, ?_, fun i hi => by omega⟩
    simp only [h0]; rfl
  · rename_i h0
    refine ⟨0, 64, by simp; omega, by omega, by omega, rfl, rfl, rfl, fun i hi => ?_⟩
    show put (fun _ => 0) 0 key.length (fun i => key.getD i 0) i = _
    unfold put
    split
    · rw [getD_app_l (by omega)]; congr 1; omega
    · rw [getD_app_r (by omega), List.getD_eq_getElem?_getD, List.getElem?_replicate]; split <;> rfl
theorem keyB_length {key : List Int} (h : key.length ≤ 32) : (keyB key).length ≤ 64 := by
  unfold keyB; split
  · simp
  · simp; omega
theorem digL_D {size : Int} {key b : List Int} (h : key.length ≤ 32) (hb : b.length ≤ 2 ^ 59) : digL size key b = D wordO (h0 size key.length) (keyB key ++ b) := by
  have := keyB_length h
  exact sumL_has (absorb_has (newH_has h) (by omega)) (by simp; omega)
/-- In two pieces. -/
theorem two_D {size : Int} {key a b : List Int} (h : key.length ≤ 32) (hb : a.length + b.length ≤ 2 ^ 59) : sumL (absorb (absorb (newH size key) a) b) = digL size key (a ++ b) := by
  have := keyB_length h
  rw [digL_D h (by simp; omega), ← List.append_assoc]
  exact sumL_has (absorb_has (absorb_has (newH_has h) (by omega)) (by simp; omega)) (by simp; omega)
end Go.Proofs.Ytggkdjhgknghcaa.Bl
