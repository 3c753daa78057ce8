/- Xor of chacha, 2: its outer loop: without conditions. -/
import Derived.Test.YtgifhfoehmalcaaChX
namespace Go.Proofs.Ytgifhfoehmalcaa.Ch
open Am Run IntWalk

/-! the outer loop -/
noncomputable def cX : Code := loopOf 5 (body Try.f17)
def tX (n : Nat) (c : Int) (at_ : Nat) : List Value := slots 66 [(1, .int .u32 c), (3, slR 3 n), (4, pR 4), (6, pR 5), (10, rowR 6 n), (11, .int .i64 at_)]
/-- at_: where the block begins; m: its bytes; c, c': counters; o': what stands behind it. -/
def hX (n at_ m : Nat) (c' : Int) (b : List Int) (K N : Nat → Int) (c : Int) (o' : List Int) : Hint := ⟨fun r k => match r, k with
  | 5, 3 => some (.pure (.bool true))
  | 8, 3 => some (.pure (.int .i64 ((at_ + 64 : Nat) : Int)))
  | 8, 6 => some (.pure (.int .i64 ((at_ + m : Nat) : Int)))
  | 8, 7 => some (.pure (.slice (some ⟨3, at_, none⟩) m (n - at_)))
  | 13, 1 => some (.pure (.int .u32 c'))
  | 6, 1 => some (.pure (.int .i64 ((at_ + 64 : Nat) : Int)))
  | _, _ => none, fun r => if r = 9 then some (liveI, fun _ _ => some (.exit 2, tI n at_ m c m, sI b K N o' (blockOf wordO K c N))) else none⟩
def hX0 : Hint := ⟨fun r k => match r, k with
  | 5, 3 => some (.pure (.bool false))
  | _, _ => none, fun _ => none⟩
noncomputable def xorEs : List Entry := [BlockE]
theorem xorEs_ok : ∀ e ∈ xorEs, EntryOk Try.prog e := es1 BlockE_ok
def liveX : List Nat := [1, 3, 4, 6, 10, 11]
theorem stepX (b o o' : List Int) (K N : Nat → Int) (n at_ m : Nat) (c c' : Int) : stepV xorEs (hX n at_ m c' b K N c o') 0 cX (List.range 7) [] liveX (tX n c at_) (sX b K N o) = some (.normal, tX n c' (at_ + 64), sX b K N o') := by kernel_rfl
theorem stepXP (b o o' : List Int) (K N : Nat → Int) (n at_ m : Nat) (c c' : Int) : stepP xorEs (hX n at_ m c' b K N c o') 0 cX (tX n c at_) (sX b K N o) =
    (aint .lss .i64 (at_ : Int) (n : Int) = some (.bool true) ∧ aint .add .i64 (at_ : Int) 64 = some (.int .i64 ((at_ + 64 : Nat) : Int)) ∧
     aminmax false [.int .i64 ((at_ + 64 : Nat) : Int), .int .i64 (n : Int)] = some (.int .i64 ((at_ + m : Nat) : Int)) ∧
     cut 3 0 n n 1 (some (.int .i64 (at_ : Int))) (some (.int .i64 ((at_ + m : Nat) : Int))) none = some (.slice (some ⟨3, at_, none⟩) m (n - at_)) ∧
     RunsP (.loop cI) (tI n at_ m c 0) (sI b K N o (blockOf wordO K c N)) (.exit 2) (tI n at_ m c m) (sI b K N o' (blockOf wordO K c N)) ∧
     aint .add .u32 c 1 = some (.int .u32 c') ∧ aint .add .i64 (at_ : Int) 64 = some (.int .i64 ((at_ + 64 : Nat) : Int)) ∧ True) := by kernel_rfl
theorem stopX (b o : List Int) (K N : Nat → Int) (n at_ : Nat) (c : Int) : stepV xorEs hX0 0 cX (List.range 7) [] [10] (tX n c at_) (sX b K N o) = some (.exit 0, slots 66 [(10, rowR 6 n)], sX b K N o) := by kernel_rfl
theorem stopXP (b o : List Int) (K N : Nat → Int) (n at_ : Nat) (c : Int) : stepP xorEs hX0 0 cX (tX n c at_) (sX b K N o) = (aint .lss .i64 (at_ : Int) (n : Int) = some (.bool false) ∧ True) := by kernel_rfl
end Go.Proofs.Ytgifhfoehmalcaa.Ch
