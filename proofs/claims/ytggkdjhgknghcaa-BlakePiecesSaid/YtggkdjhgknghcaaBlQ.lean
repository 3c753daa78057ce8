/- The rounds of the document's press of blake come to the same: without conditions. -/
import Derived.Test.YtggkdjhgknghcaaBlB
namespace Go.Proofs.Ytggkdjhgknghcaa.Bl
open Am Run IntWalk

def rotr (x : Int) (n m : Nat) : Int := IntKind.u32.wrap (BitVec.ofInt 32 (x.fdiv (2 ^ n)) ||| BitVec.ofInt 32 (IntKind.u32.wrap (x * 2 ^ m))).toNat
def mixr (q : Q4) (x y : Int) : Q4 :=
  let a1 := add32 (add32 q.a q.b) x
  let d1 := rotr (xor32 q.d a1) 16 16
  let c1 := add32 q.c d1
  let b1 := rotr (xor32 q.b c1) 12 20
  let a2 := add32 (add32 a1 b1) y
  let d2 := rotr (xor32 d1 a2) 8 24
  let c2 := add32 c1 d2
  let b2 := rotr (xor32 b1 c2) 7 25
  ⟨a2, b2, c2, d2⟩
theorem rotr_rotl (x : Int) (n m : Nat) : rotr x n m = rotl x m n := by unfold rotr rotl; rw [BitVec.or_comm]
theorem add_assoc32 (a b c : Int) : add32 (add32 a b) c = add32 a (add32 b c) := by unfold add32; simp only [IntKind.wrap_u32]; omega
theorem mixr_mixq (q : Q4) (x y : Int) : mixr q x y = mixq q x y := by
  unfold mixr mixq
  simp only [rotr_rotl, add_assoc32]
theorem ofInt_wrap (x : BitVec 32) : BitVec.ofInt 32 (IntKind.u32.wrap (x.toNat : Int)) = x := by
  have := x.isLt
  rw [IntKind.wrap_u32, show ((x.toNat : Int) % 4294967296) = (x.toNat : Int) from by omega, BitVec.ofInt_natCast, BitVec.ofNat_toNat, BitVec.setWidth_eq]
theorem xor_assoc32 (a b c : Int) : xor32 (xor32 a b) c = xor32 a (xor32 b c) := by
  unfold xor32
  rw [ofInt_wrap, ofInt_wrap, BitVec.xor_assoc]
def mixAt (v : V16) (x y : Int) : Nat → V16
  | 0 => let p := mixr ⟨v.x0, v.x4, v.x8, v.x12⟩ x y; { v with x0 := p.a, x4 := p.b, x8 := p.c, x12 := p.d }
  | 1 => let p := mixr ⟨v.x1, v.x5, v.x9, v.x13⟩ x y; { v with x1 := p.a, x5 := p.b, x9 := p.c, x13 := p.d }
  | 2 => let p := mixr ⟨v.x2, v.x6, v.x10, v.x14⟩ x y; { v with x2 := p.a, x6 := p.b, x10 := p.c, x14 := p.d }
  | 3 => let p := mixr ⟨v.x3, v.x7, v.x11, v.x15⟩ x y; { v with x3 := p.a, x7 := p.b, x11 := p.c, x15 := p.d }
  | 4 => let p := mixr ⟨v.x0, v.x5, v.x10, v.x15⟩ x y; { v with x0 := p.a, x5 := p.b, x10 := p.c, x15 := p.d }
  | 5 => let p := mixr ⟨v.x1, v.x6, v.x11, v.x12⟩ x y; { v with x1 := p.a, x6 := p.b, x11 := p.c, x12 := p.d }
  | 6 => let p := mixr ⟨v.x2, v.x7, v.x8, v.x13⟩ x y; { v with x2 := p.a, x7 := p.b, x8 := p.c, x13 := p.d }
  | _ => let p := mixr ⟨v.x3, v.x4, v.x9, v.x14⟩ x y; { v with x3 := p.a, x4 := p.b, x9 := p.c, x14 := p.d }
noncomputable def turnE : Entry := ⟨34, [.val, .val], goF [] 0 Try.f34⟩
theorem turnE_ok : EntryOk Try.prog turnE := ⟨fun a s r s' h => run_ok es0 Try.func34 (by kernel_rfl) h, body_of Try.func34 (by kernel_rfl) (by kernel_rfl)⟩
def pls : Nat → List Int
  | 0 => [0, 4, 8, 12]
  | 1 => [1, 5, 9, 13]
  | 2 => [2, 6, 10, 14]
  | 3 => [3, 7, 11, 15]
  | 4 => [0, 5, 10, 15]
  | 5 => [1, 6, 11, 12]
  | 6 => [2, 7, 8, 13]
  | _ => [3, 4, 9, 14]
def margs (v : V16) (k : Nat) (x y : Int) : List Value := [.agg ⟨v.cells⟩, .agg ⟨(pls k).map (.int .i64)⟩, .int .u32 x, .int .u32 y]
theorem rmix_run (v : V16) (x y : Int) : ∀ k, k < 8 → goN [turnE] 0 Try.f29 (margs v k x y) [none, none, none, none] = some (.agg ⟨(mixAt v x y k).cells⟩, [none, none, none, none])
  | 0, _ => by kernel_rfl
  | 1, _ => by kernel_rfl
  | 2, _ => by kernel_rfl
  | 3, _ => by kernel_rfl
  | 4, _ => by kernel_rfl
  | 5, _ => by kernel_rfl
  | 6, _ => by kernel_rfl
  | 7, _ => by kernel_rfl
  | n + 8, h => absurd h (by omega)
def plIdx (p : List Int) : Option Nat :=
  if p = pls 0 then some 0 else if p = pls 1 then some 1 else if p = pls 2 then some 2 else if p = pls 3 then some 3 else if p = pls 4 then some 4 else if p = pls 5 then some 5 else if p = pls 6 then some 6 else if p = pls 7 then some 7 else none
theorem plIdx_spec {p : List Int} {k : Nat} (h : plIdx p = some k) : p = pls k ∧ k < 8 := by
  unfold plIdx at h
  repeat' split at h
  all_goals first | (cases h; done) | (cases h; exact ⟨by assumption, by decide⟩)
def rmixSpec (args : List Value) (st : St) : Option (Value × St) :=
  match args, st with
  | [.agg ⟨[.int .u32 x0, .int .u32 x1, .int .u32 x2, .int .u32 x3, .int .u32 x4, .int .u32 x5, .int .u32 x6, .int .u32 x7, .int .u32 x8, .int .u32 x9, .int .u32 x10, .int .u32 x11, .int .u32 x12, .int .u32 x13, .int .u32 x14, .int .u32 x15]⟩, .agg ⟨[.int .i64 a, .int .i64 b, .int .i64 c, .int .i64 d]⟩, .int .u32 x, .int .u32 y], [none, none, none, none] =>
    match plIdx [a, b, c, d] with
    | some k => some (.agg ⟨(mixAt ⟨x0, x1, x2, x3, x4, x5, x6, x7, x8, x9, x10, x11, x12, x13, x14, x15⟩ x y k).cells⟩, [none, none, none, none])
    | none => none
  | _, _ => none
noncomputable def rmixE : Entry := ⟨29, [.val, .val, .val, .val], rmixSpec⟩
theorem rmixE_ok : EntryOk Try.prog rmixE := by
  refine ⟨fun a s r s' h => ?_, body_of Try.func29 (by kernel_rfl) (by kernel_rfl)⟩
  simp only [rmixE] at h
  unfold rmixSpec at h
  split at h
  · split at h
    · rename_i x0 x1 x2 x3 x4 x5 x6 x7 x8 x9 x10 x11 x12 x13 x14 x15 a b c d x y _ k hk
      obtain ⟨h1, h2⟩ := plIdx_spec hk
      cases h
      have e : (⟨[.int .i64 a, .int .i64 b, .int .i64 c, .int .i64 d]⟩ : Array Value) = ⟨(pls k).map (.int .i64)⟩ := by rw [← h1]; rfl
      rw [e]
      exact runN_ok (es1 turnE_ok) Try.func29 (by kernel_rfl) (rmix_run ⟨x0, x1, x2, x3, x4, x5, x6, x7, x8, x9, x10, x11, x12, x13, x14, x15⟩ x y k h2) rfl rfl rfl
    · cases h
  · cases h
noncomputable def startsE : Entry := ⟨22, [], goC [] 0 Try.f22⟩
theorem startsE_ok : EntryOk Try.prog startsE := entryC es0 Try.func22 (by kernel_rfl) (by kernel_rfl)
noncomputable def rordersE : Entry := ⟨27, [], goC [] 0 Try.f27⟩
theorem rordersE_ok : EntryOk Try.prog rordersE := entryC es0 Try.func27 (by kernel_rfl) (by kernel_rfl)
noncomputable def rplacesE : Entry := ⟨28, [], goC [] 0 Try.f28⟩
theorem rplacesE_ok : EntryOk Try.prog rplacesE := entryC es0 Try.func28 (by kernel_rfl) (by kernel_rfl)
noncomputable def rpEs : List Entry := [rmixE, startsE, rordersE, rplacesE]
theorem rpEs_ok : ∀ e ∈ rpEs, EntryOk Try.prog e := esc rmixE_ok (esc startsE_ok (esc rordersE_ok (es1 rplacesE_ok)))

/-! the rounds -/
def round8 (m : V16) (r : Nat) (v : V16) : V16 :=
  mixAt (mixAt (mixAt (mixAt (mixAt (mixAt (mixAt (mixAt v (mw m r 0) (mw m r 1) 0) (mw m r 2) (mw m r 3) 1) (mw m r 4) (mw m r 5) 2) (mw m r 6) (mw m r 7) 3) (mw m r 8) (mw m r 9) 4) (mw m r 10) (mw m r 11) 5) (mw m r 12) (mw m r 13) 6) (mw m r 14) (mw m r 15) 7
theorem round8_eq (m : V16) (r : Nat) (v : V16) : round8 m r v = diaB m r (colB m r v) := by
  unfold round8 mixAt diaB colB
  simp only [mixr_mixq]
def ordC : List Value := ords.flatten.map fun (n : Nat) => Value.int .i64 (n : Int)
def plC : List Value := ([0, 4, 8, 12, 1, 5, 9, 13, 2, 6, 10, 14, 3, 7, 11, 15, 0, 5, 10, 15, 1, 6, 11, 12, 2, 7, 8, 13, 3, 4, 9, 14] : List Int).map (.int .i64)
noncomputable def cQ : Code := loopOf 20 (body Try.f23)
def tQ (k : Nat) : List Value := slots 143 [(4, pR 4), (8, pR 5), (9, pR 6), (11, pR 7), (14, pR 9), (15, pR 10), (16, .int .i64 k)]
def sQ (B H O I : Option Reg) (m v : V16) : St := [none, B, none, none, H, O, some ⟨m.cells, .rw⟩, some ⟨v.cells, .rw⟩, I, some ⟨ordC, .rw⟩, some ⟨plC, .rw⟩]
def liveQ : List Nat := [4, 8, 9, 11, 14, 15, 16]
theorem stepQ0 (B H O I : Option Reg) (m v : V16) : stepV rpEs noHint 9 cQ (List.range 11) [] liveQ (tQ 0) (sQ B H O I m v) = some (.normal, tQ 1, sQ B H O I m (round8 m 0 v)) := by kernel_rfl
theorem stepQ1 (B H O I : Option Reg) (m v : V16) : stepV rpEs noHint 9 cQ (List.range 11) [] liveQ (tQ 1) (sQ B H O I m v) = some (.normal, tQ 2, sQ B H O I m (round8 m 1 v)) := by kernel_rfl
theorem stepQ2 (B H O I : Option Reg) (m v : V16) : stepV rpEs noHint 9 cQ (List.range 11) [] liveQ (tQ 2) (sQ B H O I m v) = some (.normal, tQ 3, sQ B H O I m (round8 m 2 v)) := by kernel_rfl
theorem stepQ3 (B H O I : Option Reg) (m v : V16) : stepV rpEs noHint 9 cQ (List.range 11) [] liveQ (tQ 3) (sQ B H O I m v) = some (.normal, tQ 4, sQ B H O I m (round8 m 3 v)) := by kernel_rfl
theorem stepQ4 (B H O I : Option Reg) (m v : V16) : stepV rpEs noHint 9 cQ (List.range 11) [] liveQ (tQ 4) (sQ B H O I m v) = some (.normal, tQ 5, sQ B H O I m (round8 m 4 v)) := by kernel_rfl
theorem stepQ5 (B H O I : Option Reg) (m v : V16) : stepV rpEs noHint 9 cQ (List.range 11) [] liveQ (tQ 5) (sQ B H O I m v) = some (.normal, tQ 6, sQ B H O I m (round8 m 5 v)) := by kernel_rfl
theorem stepQ6 (B H O I : Option Reg) (m v : V16) : stepV rpEs noHint 9 cQ (List.range 11) [] liveQ (tQ 6) (sQ B H O I m v) = some (.normal, tQ 7, sQ B H O I m (round8 m 6 v)) := by kernel_rfl
theorem stepQ7 (B H O I : Option Reg) (m v : V16) : stepV rpEs noHint 9 cQ (List.range 11) [] liveQ (tQ 7) (sQ B H O I m v) = some (.normal, tQ 8, sQ B H O I m (round8 m 7 v)) := by kernel_rfl
theorem stepQ8 (B H O I : Option Reg) (m v : V16) : stepV rpEs noHint 9 cQ (List.range 11) [] liveQ (tQ 8) (sQ B H O I m v) = some (.normal, tQ 9, sQ B H O I m (round8 m 8 v)) := by kernel_rfl
theorem stepQ9 (B H O I : Option Reg) (m v : V16) : stepV rpEs noHint 9 cQ (List.range 11) [] liveQ (tQ 9) (sQ B H O I m v) = some (.normal, tQ 10, sQ B H O I m (round8 m 9 v)) := by kernel_rfl
theorem stepQk (B H O I : Option Reg) (m v : V16) : ∀ k, k < 10 → stepV rpEs noHint 9 cQ (List.range 11) [] liveQ (tQ k) (sQ B H O I m v) = some (.normal, tQ (k + 1), sQ B H O I m (round8 m k v))
  | 0, _ => stepQ0 B H O I m v
  | 1, _ => stepQ1 B H O I m v
  | 2, _ => stepQ2 B H O I m v
  | 3, _ => stepQ3 B H O I m v
  | 4, _ => stepQ4 B H O I m v
  | 5, _ => stepQ5 B H O I m v
  | 6, _ => stepQ6 B H O I m v
  | 7, _ => stepQ7 B H O I m v
  | 8, _ => stepQ8 B H O I m v
  | 9, _ => stepQ9 B H O I m v
  | n + 10, h => absurd h (by omega)
theorem stopQ (B H O I : Option Reg) (m v : V16) : stepV rpEs noHint 9 cQ (List.range 11) [] liveQ (tQ 10) (sQ B H O I m v) = some (.exit 4, tQ 10, sQ B H O I m v) := by kernel_rfl
theorem plQ {B H O I : Option Reg} (h1 : plainReg B = true) (h2 : plainReg H = true) (h3 : plainReg O = true) (h4 : plainReg I = true) (m v : V16) : plainBut [] 0 (sQ B H O I m v) = true := by
  have e1 : plainReg (some ⟨m.cells, .rw⟩) = true := rfl
  have e2 : plainReg (some ⟨v.cells, .rw⟩) = true := rfl
  have e3 : plainReg none = true := rfl
  have e4 : plainReg (some ⟨ordC, .rw⟩) = true := rfl
  have e5 : plainReg (some ⟨plC, .rw⟩) = true := rfl
  simp only [sQ, plainBut, h1, h2, h3, h4, e1, e2, e3, e4, e5, Bool.or_true, Bool.and_true]
theorem loopQ {B H O I : Option Reg} (h1 : plainReg B = true) (h2 : plainReg H = true) (h3 : plainReg O = true) (h4 : plainReg I = true) (m v : V16) :
    RunsP (.loop cQ) (tQ 0) (sQ B H O I m v) (.exit 4) (tQ 10) (sQ B H O I m (brs m 10 v)) :=
  Runs.count 10 tQ (fun k => sQ B H O I m (brs m k v)) (fun k hk => by
    have := stepQk B H O I m (brs m k v) k hk
    rw [round8_eq] at this
    exact step0_ok rpEs_ok this (plQ h1 h2 h3 h4 _ _)) (step0_ok rpEs_ok (stopQ B H O I m _) (plQ h1 h2 h3 h4 _ _)) (by simp)
def finR (h : V8) (v : V16) : V8 :=
  ⟨xor32 (xor32 h.x0 v.x0) v.x8, xor32 (xor32 h.x1 v.x1) v.x9, xor32 (xor32 h.x2 v.x2) v.x10, xor32 (xor32 h.x3 v.x3) v.x11, xor32 (xor32 h.x4 v.x4) v.x12, xor32 (xor32 h.x5 v.x5) v.x13, xor32 (xor32 h.x6 v.x6) v.x14, xor32 (xor32 h.x7 v.x7) v.x15⟩
theorem finR_fin (h : V8) (v : V16) : finR h v = fin h v := by unfold finR fin; simp only [xor_assoc32]
end Go.Proofs.Ytggkdjhgknghcaa.Bl
