/- Plain words of 32 bits and the numbers that the program keeps them as; a quarter round taken back. Without conditions. -/
import Derived.Test.YtgifhfoehmalcaaChA
import Derived.IntWalk
namespace Go.Proofs.Ytgifhfoehmalcaa.Ch
open Am Run

abbrev W := BitVec 32
/-- The number of a word. -/
def num (x : W) : Int := (x.toNat : Int)
theorem num_inj {x y : W} : num x = num y ↔ x = y := by
  unfold num
  constructor
  · intro h; exact BitVec.eq_of_toNat_eq (by omega)
  · rintro rfl; rfl
theorem wrap_nat (n : Nat) : IntKind.u32.wrap (n : Int) = ((n % 4294967296 : Nat) : Int) := by rw [IntKind.wrap_u32]; omega
theorem wrap_num (x : W) : IntKind.u32.wrap (x.toNat : Int) = num x := by
  rw [wrap_nat]; have := x.isLt; unfold num; omega
theorem ofInt_num (x : W) : BitVec.ofInt 32 (num x) = x := by
  unfold num
  rw [BitVec.ofInt_natCast, BitVec.ofNat_toNat, BitVec.setWidth_eq]
theorem of_range {z : Int} (h : 0 ≤ z ∧ z ≤ 4294967295) : ∃ x : W, z = num x := by
  refine ⟨BitVec.ofNat 32 z.toNat, ?_⟩
  unfold num
  rw [BitVec.toNat_ofNat]
  omega
theorem add_num (x y : W) : add32 (num x) (num y) = num (x + y) := by
  unfold add32 num
  rw [BitVec.toNat_add, ← Int.natCast_add, wrap_nat]
def sub32 (a b : Int) : Int := IntKind.u32.wrap (a - b)
theorem sub_num (x y : W) : sub32 (num x) (num y) = num (x - y) := by
  unfold sub32 num
  rw [BitVec.toNat_sub, IntKind.wrap_u32]
  have := x.isLt; have := y.isLt
  omega
theorem xor_num (x y : W) : xor32 (num x) (num y) = num (x ^^^ y) := by
  unfold xor32
  rw [ofInt_num, ofInt_num, wrap_num]
theorem shl_num (x : W) (n : Nat) : IntKind.u32.wrap (num x * 2 ^ n) = num (x <<< n) := by
  unfold num
  rw [BitVec.toNat_shiftLeft, Nat.shiftLeft_eq]
  have : ((x.toNat : Int) * 2 ^ n) = ((x.toNat * 2 ^ n : Nat) : Int) := by simp
  rw [this, wrap_nat]
theorem shr_num (x : W) (n : Nat) : (num x).fdiv (2 ^ n) = num (x >>> n) := by
  unfold num
  rw [BitVec.toNat_ushiftRight, Nat.shiftRight_eq_div_pow, Int.fdiv_eq_ediv_of_nonneg _ (by exact Int.pow_nonneg (by decide))]
  simp
def rol (x : W) (n m : Nat) : W := (x <<< n) ||| (x >>> m)
theorem rotl_num (x : W) (n m : Nat) : rotl (num x) n m = num (rol x n m) := by
  unfold rotl rol
  rw [shl_num, shr_num, ofInt_num, ofInt_num, wrap_num]
def rotr (x : Int) (n m : Nat) : Int := IntKind.u32.wrap (BitVec.ofInt 32 (x.fdiv (2 ^ n)) ||| BitVec.ofInt 32 (IntKind.u32.wrap (x * 2 ^ m))).toNat
def ror (x : W) (n m : Nat) : W := (x >>> n) ||| (x <<< m)
theorem rotr_num (x : W) (n m : Nat) : rotr (num x) n m = num (ror x n m) := by
  unfold rotr ror
  rw [shl_num, shr_num, ofInt_num, ofInt_num, wrap_num]
theorem ror_rol (x : W) (n : Nat) (h : 0 < n ∧ n < 32) : ror (rol x n (32 - n)) n (32 - n) = x := by
  unfold ror rol
  apply BitVec.eq_of_getLsbD_eq
  intro i hi
  simp only [BitVec.getLsbD_or, BitVec.getLsbD_ushiftRight, BitVec.getLsbD_shiftLeft]
  by_cases h1 : i < 32 - n
  · have a1 : n + i < 32 := by omega
    have a2 : ¬ (n + i < n) := by omega
    have a3 : x.getLsbD (32 - n + (n + i)) = false := BitVec.getLsbD_of_ge _ _ (by omega)
    have a4 : n + i - n = i := by omega
    simp [h1, a1, a2, a3, a4, hi]
  · have a1 : x.getLsbD (n + i - n) = x.getLsbD i := by congr 1; omega
    have a2 : ¬ (n + i < 32) := by omega
    have a3 : x.getLsbD (32 - n + (n + i)) = false := BitVec.getLsbD_of_ge _ _ (by omega)
    have a4 : i - (32 - n) < n := by omega
    have a5 : 32 - n + (i - (32 - n)) = i := by omega
    have a6 : i - (32 - n) < 32 := by omega
    simp [h1, a2, a3, a4, a5, a6, hi]

structure V4 where
  a : W
  b : W
  c : W
  d : W
def V4.q (v : V4) : Q4 := ⟨num v.a, num v.b, num v.c, num v.d⟩
def vr (q : V4) : V4 :=
  let a1 := q.a + q.b
  let d1 := rol (q.d ^^^ a1) 16 16
  let c1 := q.c + d1
  let b1 := rol (q.b ^^^ c1) 12 20
  let a2 := a1 + b1
  let d2 := rol (d1 ^^^ a2) 8 24
  let c2 := c1 + d2
  let b2 := rol (b1 ^^^ c2) 7 25
  ⟨a2, b2, c2, d2⟩
theorem qr_num (v : V4) : qr v.q = (vr v).q := by
  simp only [qr, vr, V4.q, add_num, xor_num, rotl_num]
/-- Taken back, as the program's law has it. -/
def bk (q : Q4) : Q4 :=
  let b1 := xor32 (rotr q.b 7 25) q.c
  let c1 := sub32 q.c q.d
  let d1 := xor32 (rotr q.d 8 24) q.a
  let a1 := sub32 q.a b1
  let b2 := xor32 (rotr b1 12 20) c1
  let c2 := sub32 c1 d1
  let d2 := xor32 (rotr d1 16 16) a1
  let a2 := sub32 a1 b2
  ⟨a2, b2, c2, d2⟩
theorem xor_cancel (x y : W) : x ^^^ y ^^^ y = x := by rw [BitVec.xor_assoc, BitVec.xor_self, BitVec.xor_zero]
theorem bk_qr (v : V4) : bk (qr v.q) = v.q := by
  rw [qr_num]
  have r7 : ∀ x, ror (rol x 7 25) 7 25 = x := fun x => ror_rol x 7 (by omega)
  have r8 : ∀ x, ror (rol x 8 24) 8 24 = x := fun x => ror_rol x 8 (by omega)
  have r12 : ∀ x, ror (rol x 12 20) 12 20 = x := fun x => ror_rol x 12 (by omega)
  have r16 : ∀ x, ror (rol x 16 16) 16 16 = x := fun x => ror_rol x 16 (by omega)
  simp only [bk, vr, V4.q, sub_num, xor_num, rotr_num, r7, r8, r12, r16, xor_cancel, BitVec.add_sub_cancel]
end Go.Proofs.Ytgifhfoehmalcaa.Ch
