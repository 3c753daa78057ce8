/- Sum, New and Of of blake: what they come to. Without conditions. -/
import Derived.Test.YtggkdjhgknghcaaBlW
namespace Go.Proofs.Ytggkdjhgknghcaa.Bl
open Am Run IntWalk

def byteAt (x : Int) (k : Nat) : Int := IntKind.u8.wrap (x.fdiv (2 ^ (8 * k)))
def bytes4 (x : Int) : List Int := [byteAt x 0, byteAt x 1, byteAt x 2, byteAt x 3]
def out8 (h : V8) : List Int := h.list.flatMap bytes4
/-- What has no bytes yet is nought. -/
def clr (H : HS) (n : Nat) : HS := { H with blk := put H.blk n (64 - n) (fun _ => 0) }
/-- The 32 bytes of a digest. -/
def sumL (H : HS) : List Int := out8 (press (clr H H.n.toNat) H.n true).h
def hRo (H : HS) : Option Reg := some ⟨H.cells, .ro⟩

/-! Sum -/
def hSm (n z : Nat) (H : HS) : Hint := ⟨fun q i => match q, i with
  | 1, 7 => some (.pure (.bool false))
  | 4, 3 => some (.pure (.slice (some ⟨1, 9 + n, none⟩) (64 - n) (64 - n)))
  | 4, 4 => some (.eff (.tuple #[]) (fun s => s.set 1 (hR H)) [1])
  | 16, 8 => some (.pure (.slice (some ⟨2, 0, none⟩) z z))
  | _, _ => none, fun _ => none⟩
def outR (h : V8) : Option Reg := byR (out8 h) .rw
theorem sumR (h : V8) (B : Nat → Int) (n z : Nat) (t : Int) : goFH writeEs (hSm n z (clr ⟨(z : Int), h, B, (n : Int), t⟩ n)) 9 Try.f17 [pR 0] [hRo ⟨(z : Int), h, B, (n : Int), t⟩] =
    some (.slice (some ⟨2, 0, none⟩) z z, [hRo ⟨(z : Int), h, B, (n : Int), t⟩, hR (press (clr ⟨(z : Int), h, B, (n : Int), t⟩ n) (n : Int) true), outR (press (clr ⟨(z : Int), h, B, (n : Int), t⟩ n) (n : Int) true).h]) := by kernel_rfl
theorem sumP (h : V8) (B : Nat → Int) (n z : Nat) (t : Int) : owes writeEs (hSm n z (clr ⟨(z : Int), h, B, (n : Int), t⟩ n)) 9 Try.f17 [pR 0] [hRo ⟨(z : Int), h, B, (n : Int), t⟩] =
    (aint .eql .i64 (z : Int) 0 = some (.bool false) ∧ cut 1 9 64 64 1 (some (.int .i64 (n : Int))) none none = some (.slice (some ⟨1, 9 + n, none⟩) (64 - n) (64 - n)) ∧
     ((none : Option Value) = none ∧ effI (clearCore [hRo ⟨(z : Int), h, B, (n : Int), t⟩, hR ⟨(z : Int), h, B, (n : Int), t⟩] 1 (9 + n) (64 - n)) none 2 = some (.tuple #[], [hRo ⟨(z : Int), h, B, (n : Int), t⟩, hR (clr ⟨(z : Int), h, B, (n : Int), t⟩ n)], .eff [1] 2)) ∧
     cut 2 0 32 32 1 none (some (.int .i64 (z : Int))) (some (.int .i64 (z : Int))) = some (.slice (some ⟨2, 0, none⟩) z z) ∧ True) := by kernel_rfl
theorem cut_cap {i z : Nat} (h : z ≤ 32) : cut i 0 32 32 1 none (some (.int .i64 (z : Int))) (some (.int .i64 (z : Int))) = some (.slice (some ⟨i, 0, none⟩) z z) := by
  unfold cut
  simp only [Option.isSome_some, Option.isNone_some, Bool.and_false, Bool.false_eq_true, if_false, bound?]
  rw [if_pos ⟨by omega, by omega⟩]
  simp only
  rw [if_pos ⟨by omega, by omega⟩]
  simp
theorem sum_ac {H : HS} {z : Nat} (hz : H.size = (z : Int)) (h1 : 0 < z) (h32 : z ≤ 32) (hw : Waits H) : AC Try.prog 17 [pR 0] [hRo H] (.slice (some ⟨1, 0, none⟩) z z) [hRo H, byR (sumL H) .rw] := by
  obtain ⟨s, h, B, n', t⟩ := H
  obtain ⟨n, hn, hn64⟩ := hw
  simp only at hn hz
  subst hn
  subst hz
  have hs := runH_ok writeEs_ok Try.func17 (by kernel_rfl) (hint := hSm n z (clr ⟨(z : Int), h, B, (n : Int), t⟩ n)) (n := 9) (a := [pR 0]) (s := [hRo ⟨(z : Int), h, B, (n : Int), t⟩]) (by
    rw [sumP]
    refine ⟨eql_eq (by simp; omega), cut_in (by omega), ⟨rfl, ?_⟩, cut_cap h32, trivial⟩
    rw [clear_hash (p := 1) (n := n) (H := ⟨(z : Int), h, B, (n : Int), t⟩) rfl hn64]
    rfl) (sumR h B n z t)
  refine view_plain hs [0, 2] rfl rfl rfl rfl rfl
def sumSpec0 (args : List Value) (st : St) : Option (Value × St) :=
  match args, st with
  | [.pointer (some ⟨0, 0, none⟩)], [some ⟨cs, .ro⟩] => match hOf cs with
    | some H => if 0 < H.size ∧ H.size ≤ 32 ∧ 0 ≤ H.n ∧ H.n ≤ 64 then some (.slice (some ⟨1, 0, none⟩) H.size.toNat H.size.toNat, [hRo H, byR (sumL H) .rw]) else none
    | none => none
  | _, _ => none
noncomputable def hsumE : Entry := ⟨17, [.ptr 75 false], orRun [pressE] 9 Try.f17 sumSpec0⟩
theorem hsumE_ok : EntryOk Try.prog hsumE := by
  refine orRun_ok writeEs_ok Try.func17 (by kernel_rfl) (by kernel_rfl) fun a s r s' h => ?_
  unfold sumSpec0 at h
  split at h
  · split at h
    · rename_i H hH
      split at h
      · rename_i hc
        cases h
        rw [hOf_spec hH]
        exact sum_ac (z := H.size.toNat) (by omega) (by omega) (by omega) ⟨H.n.toNat, by omega, by omega⟩
      · cases h
    · cases h
  · cases h

/-! New -/
def h0 (size : Int) (klen : Nat) : V8 := { iv with x0 := xor32 iv.x0 (xor32 (xor32 16842752 (shl32 (klen : Int) 8)) (IntKind.u32.wrap size)) }
def newH (size : Int) (key : List Int) : HS := if key.length = 0 then ⟨size, h0 size 0, fun _ => 0, 0, 0⟩ else ⟨size, h0 size key.length, put (fun _ => 0) 0 key.length (fun i => key.getD i 0), 64, 0⟩
noncomputable def newEs : List Entry := [startE]
theorem newEs_ok : ∀ e ∈ newEs, EntryOk Try.prog e := es1 startE_ok
def hN (a b c : Bool) (k : Nat) (d : Bool) (H : HS) : Hint := ⟨fun q i => match q, i with
  | 1, 1 => some (.pure (.bool a))
  | 1, 4 => some (.pure (.bool b))
  | 1, 9 => some (.pure (.bool c))
  | 5, 2 => some (.pure (.bool d))
  | 6, 5 => some (.eff (.int .i64 (k : Int)) (fun s => s.set 2 (hR H)) [2])
  | _, _ => none, fun _ => none⟩
def hN1 : Hint := ⟨fun q i => match q, i with
  | 1, 1 => some (.pure (.bool true))
  | _, _ => none, fun _ => none⟩
def hN2 : Hint := ⟨fun q i => match q, i with
  | 1, 1 => some (.pure (.bool false))
  | 1, 4 => some (.pure (.bool true))
  | _, _ => none, fun _ => none⟩
def hN3 : Hint := ⟨fun q i => match q, i with
  | 1, 1 => some (.pure (.bool false))
  | 1, 4 => some (.pure (.bool false))
  | 1, 9 => some (.pure (.bool true))
  | _, _ => none, fun _ => none⟩
def argsN (size : Int) (k : Nat) : List Value := [.int .i64 size, slR 1 k]
theorem newR1 (size : Int) (key : List Int) (k : Nat) : goNH newEs hN1 0 Try.f15 (argsN size k) [none, byR key .ro] = some (.tuple #[.pointer none, .int .i64 2], [none, byR key .ro]) := by kernel_rfl
theorem newP1 (size : Int) (key : List Int) (k : Nat) : owes newEs hN1 0 Try.f15 (argsN size k) [none, byR key .ro] = (aint .lss .i64 size 1 = some (.bool true) ∧ True) := by kernel_rfl
theorem newR2 (size : Int) (key : List Int) (k : Nat) : goNH newEs hN2 0 Try.f15 (argsN size k) [none, byR key .ro] = some (.tuple #[.pointer none, .int .i64 2], [none, byR key .ro]) := by kernel_rfl
theorem newP2 (size : Int) (key : List Int) (k : Nat) : owes newEs hN2 0 Try.f15 (argsN size k) [none, byR key .ro] = (aint .lss .i64 size 1 = some (.bool false) ∧ aint .gtr .i64 size 32 = some (.bool true) ∧ True) := by kernel_rfl
theorem newR3 (size : Int) (key : List Int) (k : Nat) : goNH newEs hN3 0 Try.f15 (argsN size k) [none, byR key .ro] = some (.tuple #[.pointer none, .int .i64 2], [none, byR key .ro]) := by kernel_rfl
theorem newP3 (size : Int) (key : List Int) (k : Nat) : owes newEs hN3 0 Try.f15 (argsN size k) [none, byR key .ro] = (aint .lss .i64 size 1 = some (.bool false) ∧ aint .gtr .i64 size 32 = some (.bool false) ∧ aint .gtr .i64 (k : Int) 32 = some (.bool true) ∧ True) := by kernel_rfl
theorem newR4 (size : Int) : goFH newEs (hN false false false 0 false ⟨0, iv, fun _ => 0, 0, 0⟩) 0 Try.f15 (argsN size 0) [none, byR [] .ro] = some (.tuple #[.pointer (some ⟨2, 0, none⟩), .int .i64 0], [none, byR [] .ro, hR ⟨size, h0 size 0, fun _ => 0, 0, 0⟩]) := by kernel_rfl
theorem newP4 (size : Int) : owes newEs (hN false false false 0 false ⟨0, iv, fun _ => 0, 0, 0⟩) 0 Try.f15 (argsN size 0) [none, byR [] .ro] =
   (aint .lss .i64 size 1 = some (.bool false) ∧ aint .gtr .i64 size 32 = some (.bool false) ∧ aint .gtr .i64 0 32 = some (.bool false) ∧ aint .gtr .i64 0 0 = some (.bool false) ∧ True) := by kernel_rfl
theorem newR5 (size : Int) (key : List Int) (k : Nat) : goFH newEs (hN false false false k true ⟨size, h0 size k, put (fun _ => 0) 0 k (fun i => key.getD i 0), 0, 0⟩) 0 Try.f15 (argsN size k) [none, byR key .ro] =
   some (.tuple #[.pointer (some ⟨2, 0, none⟩), .int .i64 0], [none, byR key .ro, hR ⟨size, h0 size k, put (fun _ => 0) 0 k (fun i => key.getD i 0), 64, 0⟩]) := by kernel_rfl
theorem newP5 (size : Int) (key : List Int) (k : Nat) : owes newEs (hN false false false k true ⟨size, h0 size k, put (fun _ => 0) 0 k (fun i => key.getD i 0), 0, 0⟩) 0 Try.f15 (argsN size k) [none, byR key .ro] =
   (aint .lss .i64 size 1 = some (.bool false) ∧ aint .gtr .i64 size 32 = some (.bool false) ∧ aint .gtr .i64 (k : Int) 32 = some (.bool false) ∧ aint .gtr .i64 (k : Int) 0 = some (.bool true) ∧
    ((none : Option Value) = none ∧ effI (copyCore [none, byR key .ro, hR ⟨size, h0 size k, fun _ => 0, 0, 0⟩] 2 9 64 1 0 k) none 3 = some (.int .i64 (k : Int), [none, byR key .ro, hR ⟨size, h0 size k, put (fun _ => 0) 0 k (fun i => key.getD i 0), 0, 0⟩], .eff [2] 3)) ∧ True) := by kernel_rfl
/-- What may not be. -/
def badN (size : Int) (k : Nat) : Prop := size < 1 ∨ 32 < size ∨ 32 < k
instance (size : Int) (k : Nat) : Decidable (badN size k) := by unfold badN; infer_instance
theorem pl_key (key : List Int) : [none, byR key .ro].all plainReg = true := by simp only [List.all_cons, List.all_nil, byR, plain_u8, plainReg, Bool.and_true, Bool.and_self]
theorem new_bad {size : Int} {key : List Int} (h : badN size key.length) : AC Try.prog 15 (argsN size key.length) [none, byR key .ro] (.tuple #[.pointer none, .int .i64 2]) [none, byR key .ro] := by
  unfold badN at h
  by_cases h1 : size < 1
  · refine runNH_ok newEs_ok Try.func15 (by kernel_rfl) ?_ (newR1 size key _) rfl (pl_key key) rfl
    rw [newP1]; exact ⟨lss_eq (by simpa using h1), trivial⟩
  · by_cases h2 : 32 < size
    · refine runNH_ok newEs_ok Try.func15 (by kernel_rfl) ?_ (newR2 size key _) rfl (pl_key key) rfl
      rw [newP2]; exact ⟨lss_eq (by simp; omega), gtr_eq (by simpa using h2), trivial⟩
    · refine runNH_ok newEs_ok Try.func15 (by kernel_rfl) ?_ (newR3 size key _) rfl (pl_key key) rfl
      rw [newP3]; exact ⟨lss_eq (by simp; omega), gtr_eq (by simp; omega), gtr_eq (by simp; omega), trivial⟩
theorem new_fine {size : Int} {key : List Int} (h : ¬ badN size key.length) : AC Try.prog 15 (argsN size key.length) [none, byR key .ro] (.tuple #[.pointer (some ⟨2, 0, none⟩), .int .i64 0]) [none, byR key .ro, hR (newH size key)] := by
  unfold badN at h
  cases key with
  | nil =>
    refine runH_ok newEs_ok Try.func15 (by kernel_rfl) ?_ (newR4 size)
    show owes newEs (hN false false false 0 false ⟨0, iv, fun _ => 0, 0, 0⟩) 0 Try.f15 (argsN size 0) [none, byR [] .ro]
    rw [newP4]; exact ⟨lss_eq (by simp; omega), gtr_eq (by simp; omega), rfl, rfl, trivial⟩
  | cons x r =>
    unfold newH
    rw [if_neg (by simp)]
    refine runH_ok newEs_ok Try.func15 (by kernel_rfl) ?_ (newR5 size (x :: r) _)
    rw [newP5]
    refine ⟨lss_eq (by simp; omega), gtr_eq (by simp; omega), gtr_eq (by simp only [decide_eq_false_iff_not]; omega), gtr_eq (by simp), ⟨rfl, ?_⟩, trivial⟩
    have := copy_hash (st := [none, byR (x :: r) .ro, hR ⟨size, h0 size (x :: r).length, fun _ => 0, 0, 0⟩]) (p := 2) (n := 0) (j := 1) (b := x :: r) (kd := .ro) (o := 0) (r := (x :: r).length) (k := (x :: r).length) rfl rfl (by omega) (by omega) (by omega)
    rw [show (64 - 0 : Nat) = 64 from rfl, show (9 + 0 : Nat) = 9 from rfl, List.drop_zero] at this
    rw [this]
    rfl
def newSpec (args : List Value) (st : St) : Option (Value × St) :=
  match args, st with
  | [.int .i64 size, .slice (some ⟨1, 0, none⟩) m d], [none, some ⟨xs, .ro⟩] => match u8s xs with
    | some key => if m = key.length ∧ d = key.length then
        (if badN size key.length then some (.tuple #[.pointer none, .int .i64 2], [none, byR key .ro])
         else some (.tuple #[.pointer (some ⟨2, 0, none⟩), .int .i64 0], [none, byR key .ro, hR (newH size key)])) else none
    | none => none
  | _, _ => none
noncomputable def newE : Entry := ⟨15, [.val, .sl false], newSpec⟩
theorem newE_ok : EntryOk Try.prog newE := by
  refine ⟨fun a s r s' h => ?_, body_of Try.func15 (by kernel_rfl) (by kernel_rfl)⟩
  simp only [newE] at h
  unfold newSpec at h
  split at h
  · split at h
    · rename_i key hk
      split at h
      · rename_i hc
        obtain ⟨rfl, rfl⟩ := hc
        rw [u8s_spec hk]
        split at h
        · rename_i hb; cases h; exact new_bad hb
        · rename_i hb; cases h; exact new_fine hb
      · cases h
    · cases h
  · cases h

/-! hashes whose blocks are the same -/
structure Same (H G : HS) : Prop where
  size : H.size = G.size
  h : H.h = G.h
  n : H.n = G.n
  t : H.t = G.t
  blk : ∀ i, i < 64 → H.blk i = G.blk i
theorem words_congr {w : Int → Int → Int → Int → Int} {B C : Nat → Int} (h : ∀ i, i < 64 → B i = C i) : words w B = words w C := by
  unfold words
  simp only [h 0 (by decide), h 1 (by decide), h 2 (by decide), h 3 (by decide), h 4 (by decide), h 5 (by decide), h 6 (by decide), h 7 (by decide), h 8 (by decide), h 9 (by decide), h 10 (by decide), h 11 (by decide), h 12 (by decide), h 13 (by decide), h 14 (by decide), h 15 (by decide), h 16 (by decide), h 17 (by decide), h 18 (by decide), h 19 (by decide), h 20 (by decide), h 21 (by decide), h 22 (by decide), h 23 (by decide), h 24 (by decide), h 25 (by decide), h 26 (by decide), h 27 (by decide), h 28 (by decide), h 29 (by decide), h 30 (by decide), h 31 (by decide), h 32 (by decide), h 33 (by decide), h 34 (by decide), h 35 (by decide), h 36 (by decide), h 37 (by decide), h 38 (by decide), h 39 (by decide), h 40 (by decide), h 41 (by decide), h 42 (by decide), h 43 (by decide), h 44 (by decide), h 45 (by decide), h 46 (by decide), h 47 (by decide), h 48 (by decide), h 49 (by decide), h 50 (by decide), h 51 (by decide), h 52 (by decide), h 53 (by decide), h 54 (by decide), h 55 (by decide), h 56 (by decide), h 57 (by decide), h 58 (by decide), h 59 (by decide), h 60 (by decide), h 61 (by decide), h 62 (by decide), h 63 (by decide)]
theorem u8N_congr {B C : Nat → Int} (h : ∀ i, i < 64 → B i = C i) : u8N 64 B = u8N 64 C := by
  unfold u8N
  apply List.map_congr_left
  intro i hi
  rw [h i (List.mem_range.1 hi)]
theorem Same.cells {H G : HS} (s : Same H G) : H.cells = G.cells := by
  unfold HS.cells
  rw [s.size, s.h, s.n, s.t, u8N_congr s.blk]
theorem Same.hR {H G : HS} (s : Same H G) : Bl.hR H = Bl.hR G := by unfold Bl.hR; rw [s.cells]
theorem Same.press {H G : HS} (s : Same H G) (m : Int) (l : Bool) : Same (Bl.press H m l) (Bl.press G m l) := by
  refine ⟨s.size, ?_, s.n, ?_, s.blk⟩
  · simp only [Bl.press]; rw [s.h, s.t, words_congr s.blk]
  · simp only [Bl.press]; rw [s.t]
theorem Same.take1 {H G : HS} (s : Same H G) (n k : Nat) (l : List Int) : Same (Bl.take1 H n k l) (Bl.take1 G n k l) := by
  refine ⟨s.size, s.h, rfl, s.t, fun i hi => ?_⟩
  simp only [Bl.take1, put]
  rw [s.blk i hi]
theorem Same.fill1 {H G : HS} (s : Same H G) : Same (Bl.fill1 H) (Bl.fill1 G) := by
  have := s.press 64 false
  exact ⟨this.size, this.h, rfl, this.t, this.blk⟩
theorem Same.absorbF : ∀ (f : Nat) {H G : HS} (_ : Same H G) (l : List Int), Same (Bl.absorbF f H l) (Bl.absorbF f G l) := by
  intro f
  induction f with
  | zero => intro H G s l; exact s
  | succ f ih =>
    intro H G s l
    unfold Bl.absorbF
    rw [s.n]
    split
    · exact s
    · split
      · exact ih (s.fill1.take1 _ _ _) _
      · exact ih (s.take1 _ _ _) _
theorem Same.absorb {H G : HS} (s : Same H G) (l : List Int) : Same (Bl.absorb H l) (Bl.absorb G l) := Same.absorbF _ s l
theorem Same.sumL {H G : HS} (s : Same H G) : Bl.sumL H = Bl.sumL G := by
  unfold Bl.sumL
  have c : Same (clr H H.n.toNat) (clr G G.n.toNat) := by
    refine ⟨s.size, s.h, s.n, s.t, fun i hi => ?_⟩
    simp only [clr, put, s.n, s.blk i hi]
  rw [(c.press H.n true).h, s.n]
/-- A hash, read out of its own cells. -/
theorem hOf_cells (H : HS) : ∃ G, hOf H.cells = some G ∧ Same G H := by
  refine ⟨⟨H.size, ⟨H.h.x0, H.h.x1, H.h.x2, H.h.x3, H.h.x4, H.h.x5, H.h.x6, H.h.x7⟩, fun i => ((List.range 64).map H.blk).getD i 0, H.n, H.t⟩, rfl, rfl, rfl, rfl, rfl, fun i hi => ?_⟩
  simp only
  rw [List.getD_eq_getElem?_getD, List.getElem?_map, List.getElem?_range hi]; rfl

/-! calls of these -/
theorem plain_h (H : HS) : H.cells.all plain0 = true := rfl
theorem smalls_hash {st : St} {p : Nat} {H : HS} {r : List (Option Fp)} {q : St} (hp : st[p]? = some (hR H)) (hr : smalls st r = some q) : smalls st (some ⟨p, 0, 75, true⟩ :: r) = some (hR H :: q) := by
  have e : (H.cells.drop 0).take 75 = H.cells := rfl
  simp only [smalls, hp, hR, e, hr]
  rw [if_pos ⟨by rw [hcells_length]; decide, plain_h H, by simp⟩]
  simp
theorem smalls_hashR {st : St} {p : Nat} {H : HS} {r : List (Option Fp)} {q : St} (hp : st[p]? = some (hR H)) (hr : smalls st r = some q) : smalls st (some ⟨p, 0, 75, false⟩ :: r) = some (hRo H :: q) := by
  have e : (H.cells.drop 0).take 75 = H.cells := rfl
  simp only [smalls, hp, hR, e, hr]
  rw [if_pos ⟨by rw [hcells_length]; decide, plain_h H, by simp⟩]
  simp [hRo]
theorem wb_hash {st : St} {p : Nat} {H G : HS} {r : List (Option Fp)} {q : St} (hp : st[p]? = some (hR H)) : wb st (some ⟨p, 0, 75, true⟩ :: r) (hR G :: q) = wb (st.set p (hR G)) r q := by
  have e : wr st p 0 G.cells = some (st.set p (hR G)) := by
    unfold wr
    rw [hp]
    simp only [hR]
    rw [if_pos ⟨by simp, by rw [hcells_length, hcells_length]; omega, rfl⟩]
    rfl
  simp only [wb, hR]
  rw [if_pos trivial, if_pos ⟨hcells_length G, plain_h G⟩, e]
  rfl
theorem wb_ro {st : St} {f : Fp} {r : List (Option Fp)} {x : Option Reg} {q : St} (hf : f.w = false) : wb st (some f :: r) (x :: q) = wb st r q := by simp only [wb, hf]; rfl
theorem wb_nil {st : St} {q : St} : wb st [] q = some st := by simp [wb]
theorem writeSpec_cells {H : HS} {b : List Int} (hs : H.size ≠ 0) (hw : Waits H) (hb : b.length ≤ 2 ^ 47) : writeSpec0 [pR 0, slR 1 b.length] [hR H, byR b .ro] = some (.tuple #[], [hR (absorb H b), byR b .ro]) := by
  obtain ⟨G, hG, s⟩ := hOf_cells H
  obtain ⟨n, hn, hn64⟩ := hw
  simp only [writeSpec0, pR, slR, hR, byR, hG, u8s_map]
  rw [if_pos ⟨trivial, trivial, hb, by rw [s.size]; exact hs, by rw [s.n]; omega, by rw [s.n]; omega⟩, (s.absorb b).cells]
theorem call_write {st : St} {p j o : Nat} {x : Value} {H : HS} {b : List Int} (hp : st[p]? = some (hR H)) (hx : Bys st x j o b) (hpj : p ≠ j) (hs : H.size ≠ 0) (hw : Waits H) (hb : b.length ≤ 2 ^ 47) :
    gcall writeE.ks writeE.spec [pR p, x] st = some (.tuple #[], st.set p (hR (absorb H b))) := by
  rw [gcall_of0 (by simp only [writeE, bares, hx.bare, Bool.or_false]; rfl)]
  have := gcall0_do (e := 0) (ks := writeE.ks) (spec := writeE.spec) (args := [pR p, x]) (sargs := [pR 0, slR 1 b.length]) (fps := [some ⟨p, 0, 75, true⟩, some ⟨j, o, b.length, false⟩]) (st := st) (sst := [hR H, byR b .ro]) (sst' := [hR (absorb H b), byR b .ro]) (st1 := st.set p (hR (absorb H b))) (news := []) (news' := []) (res := .tuple #[]) (res' := .tuple #[])
    (by simp only [writeE, picks, hx.pick]; rfl) (smalls_hash hp (hx.small smalls_nil)) (by simp [disjFps, disj1, hpj]) (by
      simp only [writeE, orRun]
      rw [writeSpec_cells hs hw hb]
      rfl) rfl (by rw [wb_hash hp, wb_ro rfl, wb_nil]) rfl rfl
  simpa using this
theorem owe_hwrite {st : St} {p j o len : Nat} {x : Value} {H : HS} {b : List Int} (hp : st[p]? = some (hR H)) (hx : Bys st x j o b) (hpj : p ≠ j) (hs : H.size ≠ 0) (hw : Waits H) (hb : b.length ≤ 2 ^ 47) :
    effI (callE writeE.ks writeE.spec [pR p, x] st) (greads writeE.ks [pR p, x]) len = some (.tuple #[], st.set p (hR (absorb H b)), .eff [p] len) :=
  owe_write (sargs := [pR 0, slR 1 b.length]) (fps := [some ⟨p, 0, 75, true⟩, some ⟨j, o, b.length, false⟩]) (by simp only [writeE, bares, hx.bare, Bool.or_false]; rfl) (by simp only [writeE, picks, hx.pick]; rfl) rfl rfl (call_write hp hx hpj hs hw hb)
theorem sumSpec_cells {H : HS} {z : Nat} (hz : H.size = (z : Int)) (h1 : 0 < z) (h32 : z ≤ 32) (hw : Waits H) : sumSpec0 [pR 0] [hRo H] = some (.slice (some ⟨1, 0, none⟩) z z, [hRo H, byR (sumL H) .rw]) := by
  obtain ⟨G, hG, s⟩ := hOf_cells H
  obtain ⟨n, hn, hn64⟩ := hw
  simp only [sumSpec0, pR, hRo, hG]
  rw [if_pos ⟨by rw [s.size]; omega, by rw [s.size]; omega, by rw [s.n]; omega, by rw [s.n]; omega⟩, s.sumL, s.size, hz, s.cells]
  rfl
theorem out8_plain (h : V8) (k : RK) : plainReg (byR (out8 h) k) = true := plain_u8 _
theorem call_hsum {st : St} {p z : Nat} {H : HS} (hp : st[p]? = some (hR H)) (hz : H.size = (z : Int)) (h1 : 0 < z) (h32 : z ≤ 32) (hw : Waits H) :
    gcall hsumE.ks hsumE.spec [pR p] st = some (.slice (some ⟨st.length, 0, none⟩) z z, st ++ [byR (sumL H) .rw]) := by
  refine gcall_look (sargs := [pR 0]) (fps := [some ⟨p, 0, 75, false⟩]) (sst := [hRo H]) (news := [byR (sumL H) .rw]) (res := .slice (some ⟨1, 0, none⟩) z z) rfl rfl (smalls_hashR hp smalls_nil) rfl ?_ (by simp) (mapO_plainReg ?_) rfl
  · simp only [hsumE, orRun]
    rw [sumSpec_cells hz h1 h32 hw]
    rfl
  · simp only [List.all_cons, List.all_nil, byR, plainReg, plain_u8, Bool.and_true]
theorem owe_hsum {st : St} {p z len : Nat} {H : HS} (hp : st[p]? = some (hR H)) (hz : H.size = (z : Int)) (h1 : 0 < z) (h32 : z ≤ 32) (hw : Waits H) (hl : st.length = len) :
    effI (callE hsumE.ks hsumE.spec [pR p] st) (greads hsumE.ks [pR p]) len = some (.slice (some ⟨len, 0, none⟩) z z, st ++ [byR (sumL H) .rw], .eff [] len) := by
  subst hl
  exact owe_look (sargs := [pR 0]) (fps := [some ⟨p, 0, 75, false⟩]) rfl rfl rfl (call_hsum hp hz h1 h32 hw) (by simp)
theorem newSpec_cells {size : Int} {key : List Int} : newSpec (argsN size key.length) [none, byR key .ro] = if badN size key.length then some (.tuple #[.pointer none, .int .i64 2], [none, byR key .ro])
    else some (.tuple #[.pointer (some ⟨2, 0, none⟩), .int .i64 0], [none, byR key .ro, hR (newH size key)]) := by
  simp only [newSpec, argsN, slR, byR, u8s_map]
  rw [if_pos ⟨trivial, trivial⟩]
theorem owe_new {st : St} {x : Value} {i o len : Nat} {size : Int} {key : List Int} (hx : Bys st x i o key) (h : ¬ badN size key.length) (hl : st.length = len) :
    effI (callE newE.ks newE.spec [.int .i64 size, x] st) (greads newE.ks [.int .i64 size, x]) len = some (.tuple #[pR len, .int .i64 0], st ++ [hR (newH size key)], .eff [] len) := by
  subst hl
  have hb : bares newE.ks [.int .i64 size, x] = false := by simp only [newE, bares, hx.bare, Bool.or_false]; rfl
  have hpk : picks 0 newE.ks 0 [.int .i64 size, x] = some (argsN size key.length, [none, some ⟨i, o, key.length, false⟩]) := by simp only [newE, picks, hx.pick]; rfl
  refine owe_look hb hpk rfl (gcall_look (sst := [none, byR key .ro]) (news := [hR (newH size key)]) (res := .tuple #[.pointer (some ⟨2, 0, none⟩), .int .i64 0]) hb hpk (smalls_none (hx.small smalls_nil)) rfl ?_ (by simp) rfl rfl) (by simp)
  simp only [newE]
  rw [newSpec_cells, if_neg h]
  rfl
theorem owe_newBad {st : St} {x : Value} {i o len : Nat} {size : Int} {key : List Int} (hx : Bys st x i o key) (h : badN size key.length) (hl : st.length = len) :
    effI (callE newE.ks newE.spec [.int .i64 size, x] st) (greads newE.ks [.int .i64 size, x]) len = some (.tuple #[.pointer none, .int .i64 2], st, .load [i]) := by
  have hb : bares newE.ks [.int .i64 size, x] = false := by simp only [newE, bares, hx.bare, Bool.or_false]; rfl
  have hpk : picks 0 newE.ks 0 [.int .i64 size, x] = some (argsN size key.length, [none, some ⟨i, o, key.length, false⟩]) := by simp only [newE, picks, hx.pick]; rfl
  refine owe_see hb hpk rfl (gcall_see (sst := [none, byR key .ro]) hb hpk (smalls_none (hx.small smalls_nil)) rfl ?_ (by simp) rfl) hl
  simp only [newE]
  rw [newSpec_cells, if_pos h]
end Go.Proofs.Ytggkdjhgknghcaa.Bl
