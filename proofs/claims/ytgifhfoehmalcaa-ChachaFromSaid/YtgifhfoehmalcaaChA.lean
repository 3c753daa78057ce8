/- The quarter round of chacha and the document's come to one function of four numbers, without conditions. -/
import Derived.Test.YtgifhfoehmalcaaLst
namespace Go.Proofs.Ytgifhfoehmalcaa.Ch
open Am Run

/-! math/bits.RotateLeft32 -/
noncomputable def rotE : Entry := ⟨28, [.val, .val], goF [] 0 Try.f28⟩
theorem rotE_ok : EntryOk Try.prog rotE := ⟨fun a s r s' h => run_ok es0 Try.func28 (by kernel_rfl) h, body_of Try.func28 (by kernel_rfl) (by kernel_rfl)⟩

/-! the quarter round -/
def add32 (a b : Int) : Int := IntKind.u32.wrap (a + b)
def xor32 (a b : Int) : Int := IntKind.u32.wrap (BitVec.ofInt 32 a ^^^ BitVec.ofInt 32 b).toNat
def rotl (x : Int) (n m : Nat) : Int := IntKind.u32.wrap (BitVec.ofInt 32 (IntKind.u32.wrap (x * 2 ^ n)) ||| BitVec.ofInt 32 (x.fdiv (2 ^ m))).toNat
structure Q4 where
  a : Int
  b : Int
  c : Int
  d : Int
def qr (q : Q4) : Q4 :=
  let a1 := add32 q.a q.b
  let d1 := rotl (xor32 q.d a1) 16 16
  let c1 := add32 q.c d1
  let b1 := rotl (xor32 q.b c1) 12 20
  let a2 := add32 a1 b1
  let d2 := rotl (xor32 d1 a2) 8 24
  let c2 := add32 c1 d2
  let b2 := rotl (xor32 b1 c2) 7 25
  ⟨a2, b2, c2, d2⟩

def quarterSpec (args : List Value) (st : St) : Option (Value × St) :=
  match args, st with
  | [.pointer (some ⟨0, 0, none⟩), .pointer (some ⟨1, 0, none⟩), .pointer (some ⟨2, 0, none⟩), .pointer (some ⟨3, 0, none⟩)], [some ⟨[.int .u32 a], .rw⟩, some ⟨[.int .u32 b], .rw⟩, some ⟨[.int .u32 c], .rw⟩, some ⟨[.int .u32 d], .rw⟩] =>
    some (.tuple #[], [some ⟨[.int .u32 (qr ⟨a, b, c, d⟩).a], .rw⟩, some ⟨[.int .u32 (qr ⟨a, b, c, d⟩).b], .rw⟩, some ⟨[.int .u32 (qr ⟨a, b, c, d⟩).c], .rw⟩, some ⟨[.int .u32 (qr ⟨a, b, c, d⟩).d], .rw⟩])
  | _, _ => none

theorem quarter_run (a b c d : Int) : goF [rotE] 0 Try.f22 [.pointer (some ⟨0, 0, none⟩), .pointer (some ⟨1, 0, none⟩), .pointer (some ⟨2, 0, none⟩), .pointer (some ⟨3, 0, none⟩)]
    [some ⟨[.int .u32 a], .rw⟩, some ⟨[.int .u32 b], .rw⟩, some ⟨[.int .u32 c], .rw⟩, some ⟨[.int .u32 d], .rw⟩] =
    some (.tuple #[], [some ⟨[.int .u32 (qr ⟨a, b, c, d⟩).a], .rw⟩, some ⟨[.int .u32 (qr ⟨a, b, c, d⟩).b], .rw⟩, some ⟨[.int .u32 (qr ⟨a, b, c, d⟩).c], .rw⟩, some ⟨[.int .u32 (qr ⟨a, b, c, d⟩).d], .rw⟩]) := by
  kernel_rfl

noncomputable def quarterE : Entry := ⟨22, [.ptr 1 true, .ptr 1 true, .ptr 1 true, .ptr 1 true], quarterSpec⟩
theorem quarterE_ok : EntryOk Try.prog quarterE := by
  refine ⟨fun a s r s' h => ?_, body_of Try.func22 (by kernel_rfl) (by kernel_rfl)⟩
  simp only [quarterE] at h
  unfold quarterSpec at h
  split at h
  · cases h
    exact run_ok (es1 rotE_ok) Try.func22 (by kernel_rfl) (quarter_run _ _ _ _)
  · cases h

/-! Quarter -/
def Q4.arr (q : Q4) : Value := .agg #[.int .u32 q.a, .int .u32 q.b, .int .u32 q.c, .int .u32 q.d]
def QuarterSpec (args : List Value) (st : St) : Option (Value × St) :=
  match args, st with
  | [.agg ⟨[.int .u32 a, .int .u32 b, .int .u32 c, .int .u32 d]⟩], [none] => some ((qr ⟨a, b, c, d⟩).arr, [none])
  | _, _ => none
theorem Quarter_run (a b c d : Int) : goN [quarterE] 0 Try.f12 [.agg ⟨[.int .u32 a, .int .u32 b, .int .u32 c, .int .u32 d]⟩] [none] = some ((qr ⟨a, b, c, d⟩).arr, [none]) := by kernel_rfl
noncomputable def QuarterE : Entry := ⟨12, [.val], QuarterSpec⟩
theorem QuarterE_ok : EntryOk Try.prog QuarterE := by
  refine ⟨fun a s r s' h => ?_, body_of Try.func12 (by kernel_rfl) (by kernel_rfl)⟩
  simp only [QuarterE] at h
  unfold QuarterSpec at h
  split at h
  · cases h
    exact runN_ok (es1 quarterE_ok) Try.func12 (by kernel_rfl) (Quarter_run _ _ _ _) rfl rfl rfl
  · cases h

/-! the reference's -/
noncomputable def turnE : Entry := ⟨23, [.val, .val], goF [] 0 Try.f23⟩
theorem turnE_ok : EntryOk Try.prog turnE := ⟨fun a s r s' h => run_ok es0 Try.func23 (by kernel_rfl) h, body_of Try.func23 (by kernel_rfl) (by kernel_rfl)⟩
theorem refQuarter_run (a b c d : Int) : goN [turnE] 0 Try.f13 [.agg ⟨[.int .u32 a, .int .u32 b, .int .u32 c, .int .u32 d]⟩] [none] = some ((qr ⟨a, b, c, d⟩).arr, [none]) := by kernel_rfl
noncomputable def refQuarterE : Entry := ⟨13, [.val], QuarterSpec⟩
theorem refQuarterE_ok : EntryOk Try.prog refQuarterE := by
  refine ⟨fun a s r s' h => ?_, body_of Try.func13 (by kernel_rfl) (by kernel_rfl)⟩
  simp only [refQuarterE] at h
  unfold QuarterSpec at h
  split at h
  · cases h
    exact runN_ok (es1 turnE_ok) Try.func13 (by kernel_rfl) (refQuarter_run _ _ _ _) rfl rfl rfl
  · cases h

theorem works_run : goN [QuarterE] 0 Try.f14 [] [] = some (.bool true, []) := by kernel_rfl
def worksSpec (args : List Value) (st : St) : Option (Value × St) :=
  match args, st with
  | [], [] => some (.bool true, [])
  | _, _ => none
noncomputable def worksE : Entry := ⟨14, [], worksSpec⟩
theorem worksE_ok : EntryOk Try.prog worksE := by
  refine ⟨fun a s r s' h => ?_, body_of Try.func14 (by kernel_rfl) (by kernel_rfl)⟩
  simp only [worksE] at h
  unfold worksSpec at h
  split at h
  · cases h
    exact runN_ok (es1 QuarterE_ok) Try.func14 (by kernel_rfl) works_run rfl rfl rfl
  · cases h
end Go.Proofs.Ytgifhfoehmalcaa.Ch
