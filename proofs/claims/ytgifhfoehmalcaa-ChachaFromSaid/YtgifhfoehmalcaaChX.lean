/- Xor of chacha comes to the bytes with the stream's, place by place: without conditions. -/
import Derived.Test.YtgifhfoehmalcaaChC
import Derived.Test.YtgifhfoehmalcaaByt
namespace Go.Proofs.Ytgifhfoehmalcaa.Ch
open Am Run IntWalk

/-- The same, of numbers from 0 on: v up to j, noughts behind. -/
def upTo (v : Nat → Int) (n j : Nat) : List Int := (List.range n).map fun i => if i < j then v i else 0
theorem upTo_get (v : Nat → Int) {n j i : Nat} (hi : i < n) : (upTo v n j)[i]? = some (if i < j then v i else 0) := by
  unfold upTo; rw [List.getElem?_map, List.getElem?_range hi]; rfl
theorem upTo_length (v : Nat → Int) (n j : Nat) : (upTo v n j).length = n := by simp [upTo]
theorem upTo_set (v : Nat → Int) {n j : Nat} (hj : j < n) : (upTo v n j).set j (v j) = upTo v n (j + 1) := by
  apply List.ext_getElem?
  intro i
  rw [List.getElem?_set]
  by_cases hi : i < n
  · rw [upTo_get v hi]
    by_cases e : j = i
    · subst e; rw [if_pos rfl, if_pos (by rw [upTo_length]; exact hj), upTo_get v hi, if_pos (by omega)]
    · rw [if_neg e, upTo_get v hi]
      congr 1
      by_cases h : i < j
      · rw [if_pos h, if_pos (by omega)]
      · rw [if_neg h, if_neg (by omega)]
  · rw [if_neg (by omega), List.getElem?_eq_none (by rw [upTo_length]; omega), List.getElem?_eq_none (by rw [upTo_length]; omega)]
theorem upTo_zero (v : Nat → Int) (n : Nat) : upTo v n 0 = List.replicate n 0 := by
  apply List.ext_getElem?
  intro i
  by_cases hi : i < n
  · rw [upTo_get v hi, List.getElem?_replicate, if_pos hi]; simp
  · rw [List.getElem?_eq_none (by rw [upTo_length]; omega), List.getElem?_eq_none (by simp; omega)]
theorem upTo_all (v : Nat → Int) {n j : Nat} (h : n ≤ j) : upTo v n j = (List.range n).map v := by
  unfold upTo
  apply List.map_congr_left
  intro i hi
  rw [if_pos (by have := List.mem_range.1 hi; omega)]

def xor8 (a b : Int) : Int := IntKind.u8.wrap (BitVec.ofInt 8 a ^^^ BitVec.ofInt 8 b).toNat

/-! the inner loop -/
noncomputable def cI : Code := loopOf 9 (body Try.f17)
def tI (n at_ m : Nat) (c : Int) (i : Nat) : List Value := slots 66 [(1, .int .u32 c), (3, slR 3 n), (4, pR 4), (6, pR 5), (10, rowR 6 n), (11, .int .i64 at_), (12, pR 7), (45, .slice (some ⟨3, at_, none⟩) m (n - at_)), (46, .int .i64 m), (47, .int .i64 i)]
def sX (b : List Int) (K N : Nat → Int) (o : List Int) : St := [none, none, none, byR b .ro, some ⟨u8N 32 K, .rw⟩, some ⟨u8N 12 N, .rw⟩, byR o (.row 1)]
def sI (b : List Int) (K N : Nat → Int) (o S : List Int) : St := [none, none, none, byR b .ro, some ⟨u8N 32 K, .rw⟩, some ⟨u8N 12 N, .rw⟩, byR o (.row 1), byR S .rw]
def hI (at_ i : Nat) (x y : Int) (o' : List Int) : Hint := ⟨fun r k => match r, k with
  | 9, 0 => some (.pure (.bool true))
  | 10, 1 => some (.pure (.pointer (some ⟨3, at_ + i, none⟩)))
  | 10, 2 => some (.load (.int .u8 x) 3)
  | 11, 3 => some (.pure (.int .i64 ((at_ + i : Nat) : Int)))
  | 11, 6 => some (.pure (.pointer (some ⟨7, i, none⟩)))
  | 11, 7 => some (.load (.int .u8 y) 7)
  | 11, 9 => some (.pure (.pointer (some ⟨6, at_ + i, none⟩)))
  | 11, 10 => some (.eff undef (fun s => s.set 6 (byR o' (.row 1))) [6])
  | 12, 0 => some (.pure (.int .i64 ((i + 1 : Nat) : Int)))
  | _, _ => none, fun _ => none⟩
def hI0 : Hint := ⟨fun r k => match r, k with
  | 9, 0 => some (.pure (.bool false))
  | _, _ => none, fun _ => none⟩
def liveI : List Nat := [1, 3, 4, 6, 10, 11, 12, 45, 46, 47]
theorem stepI (b o o' S : List Int) (K N : Nat → Int) (n at_ m i : Nat) (c x y : Int) : stepV blkEs (hI at_ i x y o') 0 cI (List.range 8) [] liveI (tI n at_ m c i) (sI b K N o S) = some (.normal, tI n at_ m c (i + 1), sI b K N o' S) := by kernel_rfl
theorem stepIP (b o o' S : List Int) (K N : Nat → Int) (n at_ m i : Nat) (c x y : Int) : stepP blkEs (hI at_ i x y o') 0 cI (tI n at_ m c i) (sI b K N o S) =
    (aint .lss .i64 (i : Int) (m : Int) = some (.bool true) ∧ idxAt 3 at_ 1 m (i : Int) = some (.pointer (some ⟨3, at_ + i, none⟩)) ∧ cellAt (sI b K N o S) 3 (at_ + i) = some (.int .u8 x, 3) ∧
     aint .add .i64 (at_ : Int) (i : Int) = some (.int .i64 ((at_ + i : Nat) : Int)) ∧ idxAt 7 0 1 64 (i : Int) = some (.pointer (some ⟨7, i, none⟩)) ∧ cellAt (sI b K N o S) 7 i = some (.int .u8 y, 7) ∧
     idxAt 6 0 1 n ((at_ + i : Nat) : Int) = some (.pointer (some ⟨6, at_ + i, none⟩)) ∧
     ((none : Option Value) = none ∧ effI (storeCore (sI b K N o S) 6 (at_ + i) [.int .u8 (xor8 x y)]) none 8 = some (undef, sI b K N o' S, .eff [6] 8)) ∧
     aint .add .i64 (i : Int) 1 = some (.int .i64 ((i + 1 : Nat) : Int)) ∧ True) := by kernel_rfl
theorem stopI (b o S : List Int) (K N : Nat → Int) (n at_ m : Nat) (c : Int) : stepV blkEs hI0 0 cI (List.range 8) [] liveI (tI n at_ m c m) (sI b K N o S) = some (.exit 2, tI n at_ m c m, sI b K N o S) := by kernel_rfl
theorem stopIP (b o S : List Int) (K N : Nat → Int) (n at_ m : Nat) (c : Int) : stepP blkEs hI0 0 cI (tI n at_ m c m) (sI b K N o S) = (aint .lss .i64 (m : Int) (m : Int) = some (.bool false) ∧ True) := by kernel_rfl
theorem plain_u8N (n : Nat) (K : Nat → Int) : plainReg (some ⟨u8N n K, .rw⟩) = true := by
  show (u8N n K).all plain0 = true
  unfold u8N
  rw [List.all_map]; exact List.all_eq_true.2 fun _ _ => rfl
theorem plI (b o S : List Int) (K N : Nat → Int) : plainBut [] 0 (sI b K N o S) = true := by
  have h1 : plainReg none = true := rfl
  simp only [sI, plainBut, byR, plainReg_u8, plain_u8N, h1, Bool.or_true, Bool.and_true]
theorem plX (b o : List Int) (K N : Nat → Int) : plainBut [] 0 (sX b K N o) = true := by
  have h1 : plainReg none = true := rfl
  simp only [sX, plainBut, byR, plainReg_u8, plain_u8N, h1, Bool.or_true, Bool.and_true]
theorem loopI {b S : List Int} (K N : Nat → Int) {at_ m : Nat} (c : Int) (v : Nat → Int) (hn : b.length ≤ 2 ^ 60) (hm : at_ + m ≤ b.length) (h64 : m ≤ 64) (hS : S.length = 64)
    (hv : ∀ i, i < m → v (at_ + i) = xor8 (b.getD (at_ + i) 0) (S.getD i 0)) :
    RunsP (.loop cI) (tI b.length at_ m c 0) (sI b K N (upTo v b.length at_) S) (.exit 2) (tI b.length at_ m c m) (sI b K N (upTo v b.length (at_ + m)) S) := by
  refine Runs.count m (tI b.length at_ m c) (fun i => sI b K N (upTo v b.length (at_ + i)) S) (fun i hi => ?_) ?_ (by simp)
  · have hx : b[at_ + i]? = some (b.getD (at_ + i) 0) := by
      rw [List.getD_eq_getElem?_getD, List.getElem?_eq_getElem (by omega)]; rfl
    have hy : S[i]? = some (S.getD i 0) := by
      rw [List.getD_eq_getElem?_getD, List.getElem?_eq_getElem (by omega)]; rfl
    refine step_ok blkEs_ok ?_ (stepI b _ _ S K N b.length at_ m i c (b.getD (at_ + i) 0) (S.getD i 0)) (plI _ _ _ _ _)
    rw [stepIP]
    refine ⟨lss_eq (by simp; omega), idx_ok hi, cell_u8 rfl hx, add_i64 (by omega) (by omega), idx_ok0 (by omega), cell_u8 rfl hy, idx_ok0 (by omega), ⟨rfl, ?_⟩, add_i64 (by omega) (by omega), trivial⟩
    rw [store_u8 (l := upTo v b.length (at_ + i)) (kd := .row 1) rfl (by rw [upTo_length]; omega) (by simp), ← hv i hi, upTo_set v (by omega)]
    rfl
  · refine step_ok blkEs_ok ?_ (stopI b _ S K N b.length at_ m c) (plI _ _ _ _ _)
    rw [stopIP]
    exact ⟨lss_eq (by simp), trivial⟩
end Go.Proofs.Ytgifhfoehmalcaa.Ch
