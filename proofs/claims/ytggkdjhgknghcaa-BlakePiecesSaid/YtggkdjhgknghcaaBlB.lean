/- The numbers of blake, and its small functions: without conditions. -/
import Derived.Test.YtggkdjhgknghcaaCal
namespace Go.Proofs.Ytggkdjhgknghcaa.Bl
open Am Run

def add32 (a b : Int) : Int := IntKind.u32.wrap (a + b)
def xor32 (a b : Int) : Int := IntKind.u32.wrap (BitVec.ofInt 32 a ^^^ BitVec.ofInt 32 b).toNat
def rotl (x : Int) (n m : Nat) : Int := IntKind.u32.wrap (BitVec.ofInt 32 (IntKind.u32.wrap (x * 2 ^ n)) ||| BitVec.ofInt 32 (x.fdiv (2 ^ m))).toNat
structure Q4 where
  a : Int
  b : Int
  c : Int
  d : Int
structure V8 where
  x0 : Int
  x1 : Int
  x2 : Int
  x3 : Int
  x4 : Int
  x5 : Int
  x6 : Int
  x7 : Int
structure V16 where
  x0 : Int
  x1 : Int
  x2 : Int
  x3 : Int
  x4 : Int
  x5 : Int
  x6 : Int
  x7 : Int
  x8 : Int
  x9 : Int
  x10 : Int
  x11 : Int
  x12 : Int
  x13 : Int
  x14 : Int
  x15 : Int
def V8.list (v : V8) : List Int := [v.x0, v.x1, v.x2, v.x3, v.x4, v.x5, v.x6, v.x7]
def V8.cells (v : V8) : List Value := v.list.map (.int .u32)
def V16.list (v : V16) : List Int := [v.x0, v.x1, v.x2, v.x3, v.x4, v.x5, v.x6, v.x7, v.x8, v.x9, v.x10, v.x11, v.x12, v.x13, v.x14, v.x15]
def V16.cells (v : V16) : List Value := v.list.map (.int .u32)
def V16.at (v : V16) (i : Nat) : Int := v.list.getD i 0
/-- Four numbers mixed with two. -/
def mixq (q : Q4) (x y : Int) : Q4 :=
  let a1 := add32 q.a (add32 q.b x)
  let d1 := rotl (xor32 q.d a1) 16 16
  let c1 := add32 q.c d1
  let b1 := rotl (xor32 q.b c1) 20 12
  let a2 := add32 a1 (add32 b1 y)
  let d2 := rotl (xor32 d1 a2) 24 8
  let c2 := add32 c1 d2
  let b2 := rotl (xor32 b1 c2) 25 7
  ⟨a2, b2, c2, d2⟩
def ords : List (List Nat) := [
  [0, 1, 2, 3, 4, 5, 6, 7, 8, 9, 10, 11, 12, 13, 14, 15],
  [14, 10, 4, 8, 9, 15, 13, 6, 1, 12, 0, 2, 11, 7, 5, 3],
  [11, 8, 12, 0, 5, 2, 15, 13, 10, 14, 3, 6, 7, 1, 9, 4],
  [7, 9, 3, 1, 13, 12, 11, 14, 2, 6, 5, 10, 4, 0, 15, 8],
  [9, 0, 5, 7, 2, 4, 10, 15, 14, 1, 11, 12, 6, 8, 3, 13],
  [2, 12, 6, 10, 0, 11, 8, 3, 4, 13, 7, 5, 15, 14, 1, 9],
  [12, 5, 1, 15, 14, 13, 4, 10, 0, 7, 6, 3, 9, 2, 8, 11],
  [13, 11, 7, 14, 12, 1, 3, 9, 5, 0, 15, 4, 8, 6, 2, 10],
  [6, 15, 14, 9, 11, 3, 0, 8, 12, 2, 13, 7, 1, 4, 10, 5],
  [10, 2, 8, 4, 7, 6, 1, 5, 15, 11, 9, 14, 3, 12, 13, 0]]
/-- The word that comes at a place of a round. -/
def mw (m : V16) (r i : Nat) : Int := m.at ((ords.getD r []).getD i 0)
def colB (m : V16) (r : Nat) (v : V16) : V16 :=
  let p := mixq ⟨v.x0, v.x4, v.x8, v.x12⟩ (mw m r 0) (mw m r 1)
  let q := mixq ⟨v.x1, v.x5, v.x9, v.x13⟩ (mw m r 2) (mw m r 3)
  let s := mixq ⟨v.x2, v.x6, v.x10, v.x14⟩ (mw m r 4) (mw m r 5)
  let u := mixq ⟨v.x3, v.x7, v.x11, v.x15⟩ (mw m r 6) (mw m r 7)
  ⟨p.a, q.a, s.a, u.a, p.b, q.b, s.b, u.b, p.c, q.c, s.c, u.c, p.d, q.d, s.d, u.d⟩
def diaB (m : V16) (r : Nat) (v : V16) : V16 :=
  let p := mixq ⟨v.x0, v.x5, v.x10, v.x15⟩ (mw m r 8) (mw m r 9)
  let q := mixq ⟨v.x1, v.x6, v.x11, v.x12⟩ (mw m r 10) (mw m r 11)
  let s := mixq ⟨v.x2, v.x7, v.x8, v.x13⟩ (mw m r 12) (mw m r 13)
  let u := mixq ⟨v.x3, v.x4, v.x9, v.x14⟩ (mw m r 14) (mw m r 15)
  ⟨p.a, q.a, s.a, u.a, u.b, p.b, q.b, s.b, s.c, u.c, p.c, q.c, q.d, s.d, u.d, p.d⟩
def brs (m : V16) : Nat → V16 → V16
  | 0, v => v
  | k + 1, v => diaB m k (colB m k (brs m k v))
def iv : V8 := ⟨1779033703, 3144134277, 1013904242, 2773480762, 1359893119, 2600822924, 528734635, 1541459225⟩
def not32 (x : Int) : Int := IntKind.u32.wrap (BitVec.ofInt 32 4294967295 ^^^ BitVec.ofInt 32 x).toNat
/-- What the rounds begin with. -/
def vst (h : V8) (t : Int) (last : Bool) : V16 :=
  ⟨h.x0, h.x1, h.x2, h.x3, h.x4, h.x5, h.x6, h.x7, iv.x0, iv.x1, iv.x2, iv.x3, xor32 iv.x4 (IntKind.u32.wrap t), xor32 iv.x5 (IntKind.u32.wrap (t.fdiv (2 ^ 32))), if last then not32 iv.x6 else iv.x6, iv.x7⟩
def fin (h : V8) (v : V16) : V8 :=
  ⟨xor32 h.x0 (xor32 v.x0 v.x8), xor32 h.x1 (xor32 v.x1 v.x9), xor32 h.x2 (xor32 v.x2 v.x10), xor32 h.x3 (xor32 v.x3 v.x11), xor32 h.x4 (xor32 v.x4 v.x12), xor32 h.x5 (xor32 v.x5 v.x13), xor32 h.x6 (xor32 v.x6 v.x14), xor32 h.x7 (xor32 v.x7 v.x15)⟩
def comp (h : V8) (m : V16) (t : Int) (last : Bool) : V8 := fin h (brs m 10 (vst h t last))
def shl32 (b : Int) (n : Nat) : Int := IntKind.u32.wrap (IntKind.u32.wrap b * 2 ^ n)
def or32 (a b : Int) : Int := IntKind.u32.wrap (BitVec.ofInt 32 a ||| BitVec.ofInt 32 b).toNat
/-- Four bytes' number, by or. -/
def wordO (a b c d : Int) : Int := or32 (or32 (or32 (or32 0 (shl32 a 0)) (shl32 b 8)) (shl32 c 16)) (shl32 d 24)
/-- Four bytes' number, by plus. -/
def wordA (a b c d : Int) : Int := add32 (add32 (add32 (IntKind.u32.wrap a) (shl32 b 8)) (shl32 c 16)) (shl32 d 24)
def words (w : Int → Int → Int → Int → Int) (B : Nat → Int) : V16 :=
  ⟨w (B 0) (B 1) (B 2) (B 3), w (B 4) (B 5) (B 6) (B 7), w (B 8) (B 9) (B 10) (B 11), w (B 12) (B 13) (B 14) (B 15), w (B 16) (B 17) (B 18) (B 19), w (B 20) (B 21) (B 22) (B 23), w (B 24) (B 25) (B 26) (B 27), w (B 28) (B 29) (B 30) (B 31),
   w (B 32) (B 33) (B 34) (B 35), w (B 36) (B 37) (B 38) (B 39), w (B 40) (B 41) (B 42) (B 43), w (B 44) (B 45) (B 46) (B 47), w (B 48) (B 49) (B 50) (B 51), w (B 52) (B 53) (B 54) (B 55), w (B 56) (B 57) (B 58) (B 59), w (B 60) (B 61) (B 62) (B 63)⟩

/-! the small functions -/
noncomputable def rotE : Entry := ⟨35, [.val, .val], goF [] 0 Try.f35⟩
theorem rotE_ok : EntryOk Try.prog rotE := ⟨fun a s r s' h => run_ok es0 Try.func35 (by kernel_rfl) h, body_of Try.func35 (by kernel_rfl) (by kernel_rfl)⟩
def mixSpec (args : List Value) (st : St) : Option (Value × St) :=
  match args, st with
  | [.pointer (some ⟨0, 0, none⟩), .pointer (some ⟨1, 0, none⟩), .pointer (some ⟨2, 0, none⟩), .pointer (some ⟨3, 0, none⟩), .int .u32 x, .int .u32 y], [some ⟨[.int .u32 a], .rw⟩, some ⟨[.int .u32 b], .rw⟩, some ⟨[.int .u32 c], .rw⟩, some ⟨[.int .u32 d], .rw⟩, none, none] =>
    some (.tuple #[], [some ⟨[.int .u32 (mixq ⟨a, b, c, d⟩ x y).a], .rw⟩, some ⟨[.int .u32 (mixq ⟨a, b, c, d⟩ x y).b], .rw⟩, some ⟨[.int .u32 (mixq ⟨a, b, c, d⟩ x y).c], .rw⟩, some ⟨[.int .u32 (mixq ⟨a, b, c, d⟩ x y).d], .rw⟩, none, none])
  | _, _ => none
theorem mix_run (a b c d x y : Int) : goF [rotE] 0 Try.f33 [.pointer (some ⟨0, 0, none⟩), .pointer (some ⟨1, 0, none⟩), .pointer (some ⟨2, 0, none⟩), .pointer (some ⟨3, 0, none⟩), .int .u32 x, .int .u32 y]
    [some ⟨[.int .u32 a], .rw⟩, some ⟨[.int .u32 b], .rw⟩, some ⟨[.int .u32 c], .rw⟩, some ⟨[.int .u32 d], .rw⟩, none, none] =
    some (.tuple #[], [some ⟨[.int .u32 (mixq ⟨a, b, c, d⟩ x y).a], .rw⟩, some ⟨[.int .u32 (mixq ⟨a, b, c, d⟩ x y).b], .rw⟩, some ⟨[.int .u32 (mixq ⟨a, b, c, d⟩ x y).c], .rw⟩, some ⟨[.int .u32 (mixq ⟨a, b, c, d⟩ x y).d], .rw⟩, none, none]) := by
  kernel_rfl
noncomputable def mixE : Entry := ⟨33, [.ptr 1 true, .ptr 1 true, .ptr 1 true, .ptr 1 true, .val, .val], mixSpec⟩
theorem mixE_ok : EntryOk Try.prog mixE := by
  refine ⟨fun a s r s' h => ?_, body_of Try.func33 (by kernel_rfl) (by kernel_rfl)⟩
  simp only [mixE] at h
  unfold mixSpec at h
  split at h
  · cases h
    exact run_ok (es1 rotE_ok) Try.func33 (by kernel_rfl) (mix_run _ _ _ _ _ _)
  · cases h
noncomputable def nextE : Entry := ⟨32, [.ptr 1 true, .ptr 16 false], goF [] 0 Try.f32⟩
theorem nextE_ok : EntryOk Try.prog nextE := ⟨fun a s r s' h => run_ok es0 Try.func32 (by kernel_rfl) h, body_of Try.func32 (by kernel_rfl) (by kernel_rfl)⟩
noncomputable def wordE : Entry := ⟨30, [.slN 4 false], goF [] 8 Try.f30⟩
theorem wordE_ok : EntryOk Try.prog wordE := ⟨fun a s r s' h => run_ok es0 Try.func30 (by kernel_rfl) h, body_of Try.func30 (by kernel_rfl) (by kernel_rfl)⟩
noncomputable def startE : Entry := ⟨24, [], goC [] 0 Try.f24⟩
theorem startE_ok : EntryOk Try.prog startE := entryC es0 Try.func24 (by kernel_rfl) (by kernel_rfl)
noncomputable def ordersE : Entry := ⟨31, [], goC [] 0 Try.f31⟩
theorem ordersE_ok : EntryOk Try.prog ordersE := entryC es0 Try.func31 (by kernel_rfl) (by kernel_rfl)
noncomputable def pressEs : List Entry := [mixE, nextE, wordE, startE, ordersE]
theorem pressEs_ok : ∀ e ∈ pressEs, EntryOk Try.prog e := esc mixE_ok (esc nextE_ok (esc wordE_ok (esc startE_ok (es1 ordersE_ok))))

end Go.Proofs.Ytggkdjhgknghcaa.Bl
