/- The press of blake comes to one function of eight numbers, sixteen words, a count, and whether it is the last: without conditions. -/
import Derived.Test.YtggkdjhgknghcaaBlB
namespace Go.Proofs.Ytggkdjhgknghcaa.Bl
open Am Run

/-! the rounds -/
noncomputable def cP : Code := loopOf 16 (body Try.f25)
def ordN : List Int := [18364758544493064720, 3853709921291437230, 5266788149650328715, 10305543691612001175, 15242093322790139145, 10515720223929181890, 13270197634454188380, 11702690517083809725, 6503616966983130870, 991893350865389610]
def tP (k : Nat) : List Value := slots 146 [(0, pR 0), (6, pR 3), (8, pR 4), (78, .agg ⟨ordN.map (.int .u64)⟩), (79, .int .i64 k)]
def sP (H : Option Reg) (I : Option Reg) (m v : V16) : St := [H, none, none, some ⟨m.cells, .rw⟩, some ⟨v.cells, .rw⟩, I]
theorem stepP0 (H I : Option Reg) (m v : V16) : stepV pressEs noHint 9 cP (List.range 6) [] [0, 6, 8, 78, 79] (tP 0) (sP H I m v) = some (.normal, tP 1, sP H I m (diaB m 0 (colB m 0 v))) := by kernel_rfl
theorem stepP1 (H I : Option Reg) (m v : V16) : stepV pressEs noHint 9 cP (List.range 6) [] [0, 6, 8, 78, 79] (tP 1) (sP H I m v) = some (.normal, tP 2, sP H I m (diaB m 1 (colB m 1 v))) := by kernel_rfl
theorem stepP2 (H I : Option Reg) (m v : V16) : stepV pressEs noHint 9 cP (List.range 6) [] [0, 6, 8, 78, 79] (tP 2) (sP H I m v) = some (.normal, tP 3, sP H I m (diaB m 2 (colB m 2 v))) := by kernel_rfl
theorem stepP3 (H I : Option Reg) (m v : V16) : stepV pressEs noHint 9 cP (List.range 6) [] [0, 6, 8, 78, 79] (tP 3) (sP H I m v) = some (.normal, tP 4, sP H I m (diaB m 3 (colB m 3 v))) := by kernel_rfl
theorem stepP4 (H I : Option Reg) (m v : V16) : stepV pressEs noHint 9 cP (List.range 6) [] [0, 6, 8, 78, 79] (tP 4) (sP H I m v) = some (.normal, tP 5, sP H I m (diaB m 4 (colB m 4 v))) := by kernel_rfl
theorem stepP5 (H I : Option Reg) (m v : V16) : stepV pressEs noHint 9 cP (List.range 6) [] [0, 6, 8, 78, 79] (tP 5) (sP H I m v) = some (.normal, tP 6, sP H I m (diaB m 5 (colB m 5 v))) := by kernel_rfl
theorem stepP6 (H I : Option Reg) (m v : V16) : stepV pressEs noHint 9 cP (List.range 6) [] [0, 6, 8, 78, 79] (tP 6) (sP H I m v) = some (.normal, tP 7, sP H I m (diaB m 6 (colB m 6 v))) := by kernel_rfl
theorem stepP7 (H I : Option Reg) (m v : V16) : stepV pressEs noHint 9 cP (List.range 6) [] [0, 6, 8, 78, 79] (tP 7) (sP H I m v) = some (.normal, tP 8, sP H I m (diaB m 7 (colB m 7 v))) := by kernel_rfl
theorem stepP8 (H I : Option Reg) (m v : V16) : stepV pressEs noHint 9 cP (List.range 6) [] [0, 6, 8, 78, 79] (tP 8) (sP H I m v) = some (.normal, tP 9, sP H I m (diaB m 8 (colB m 8 v))) := by kernel_rfl
theorem stepP9 (H I : Option Reg) (m v : V16) : stepV pressEs noHint 9 cP (List.range 6) [] [0, 6, 8, 78, 79] (tP 9) (sP H I m v) = some (.normal, tP 10, sP H I m (diaB m 9 (colB m 9 v))) := by kernel_rfl
theorem stepPk (H I : Option Reg) (m v : V16) : ∀ k, k < 10 → stepV pressEs noHint 9 cP (List.range 6) [] [0, 6, 8, 78, 79] (tP k) (sP H I m v) = some (.normal, tP (k + 1), sP H I m (diaB m k (colB m k v)))
  | 0, _ => stepP0 H I m v
  | 1, _ => stepP1 H I m v
  | 2, _ => stepP2 H I m v
  | 3, _ => stepP3 H I m v
  | 4, _ => stepP4 H I m v
  | 5, _ => stepP5 H I m v
  | 6, _ => stepP6 H I m v
  | 7, _ => stepP7 H I m v
  | 8, _ => stepP8 H I m v
  | 9, _ => stepP9 H I m v
  | n + 10, h => absurd h (by omega)
theorem stopP (H I : Option Reg) (m v : V16) : stepV pressEs noHint 9 cP (List.range 6) [] [0, 6, 8, 78, 79] (tP 10) (sP H I m v) = some (.exit 2, tP 10, sP H I m v) := by kernel_rfl
theorem plP {H I : Option Reg} (h1 : plainReg H = true) (h2 : plainReg I = true) (m v : V16) : plainBut [] 0 (sP H I m v) = true := by
  have e1 : plainReg (some ⟨m.cells, .rw⟩) = true := rfl
  have e2 : plainReg (some ⟨v.cells, .rw⟩) = true := rfl
  have e3 : plainReg none = true := rfl
  simp only [sP, plainBut, h1, h2, e1, e2, e3, Bool.or_true, Bool.and_true]
theorem loopP {H I : Option Reg} (h1 : plainReg H = true) (h2 : plainReg I = true) (m v : V16) : RunsP (.loop cP) (tP 0) (sP H I m v) (.exit 2) (tP 10) (sP H I m (brs m 10 v)) :=
  Runs.count 10 tP (fun k => sP H I m (brs m k v)) (fun k hk => step0_ok pressEs_ok (stepPk H I m (brs m k v) k hk) (plP h1 h2 _ _)) (step0_ok pressEs_ok (stopP H I m _) (plP h1 h2 _ _)) (by simp)

/-! a hash -/
structure HS where
  size : Int
  h : V8
  blk : Nat → Int
  n : Int
  t : Int
def HS.cells (H : HS) : List Value := .int .i64 H.size :: (H.h.cells ++ (u8N 64 H.blk ++ [.int .i64 H.n, .int .u64 H.t]))
/-- A block is taken in, of which so many bytes count. -/
def press (H : HS) (many : Int) (last : Bool) : HS :=
  { H with t := IntKind.u64.wrap (H.t + IntKind.u64.wrap many), h := comp H.h (words wordO H.blk) (IntKind.u64.wrap (H.t + IntKind.u64.wrap many)) last }
def hR (H : HS) : Option Reg := some ⟨H.cells, .rw⟩
def hP : Hint := ⟨fun _ _ => none, fun r => if r = 16 then some ([0, 6, 8, 78, 79], fun _ s => match s with
  | [H, none, none, some ⟨[.int .u32 m0, .int .u32 m1, .int .u32 m2, .int .u32 m3, .int .u32 m4, .int .u32 m5, .int .u32 m6, .int .u32 m7, .int .u32 m8, .int .u32 m9, .int .u32 m10, .int .u32 m11, .int .u32 m12, .int .u32 m13, .int .u32 m14, .int .u32 m15], .rw⟩,
     some ⟨[.int .u32 x0, .int .u32 x1, .int .u32 x2, .int .u32 x3, .int .u32 x4, .int .u32 x5, .int .u32 x6, .int .u32 x7, .int .u32 x8, .int .u32 x9, .int .u32 x10, .int .u32 x11, .int .u32 x12, .int .u32 x13, .int .u32 x14, .int .u32 x15], .rw⟩, I] =>
    some (.exit 2, tP 10, sP H I ⟨m0, m1, m2, m3, m4, m5, m6, m7, m8, m9, m10, m11, m12, m13, m14, m15⟩ (brs ⟨m0, m1, m2, m3, m4, m5, m6, m7, m8, m9, m10, m11, m12, m13, m14, m15⟩ 10 ⟨x0, x1, x2, x3, x4, x5, x6, x7, x8, x9, x10, x11, x12, x13, x14, x15⟩))
  | _ => none) else none⟩
def pargs (many : Int) (last : Bool) : List Value := [pR 0, .int .i64 many, .bool last]
theorem pressR (H : HS) (many : Int) : ∀ last : Bool, goNH pressEs hP 17 Try.f25 (pargs many last) [hR H, none, none] = some (.tuple #[], [hR (press H many last), none, none])
  | true => by kernel_rfl
  | false => by kernel_rfl
def hT (H : HS) (many : Int) : HS := { H with t := IntKind.u64.wrap (H.t + IntKind.u64.wrap many) }
theorem pressP (H : HS) (many : Int) : ∀ last : Bool, owes pressEs hP 17 Try.f25 (pargs many last) [hR H, none, none] =
    (RunsP (.loop cP) (tP 0) (sP (hR (hT H many)) (some ⟨iv.cells, .rw⟩) (words wordO H.blk) (vst H.h (hT H many).t last)) (.exit 2) (tP 10) (sP (hR (hT H many)) (some ⟨iv.cells, .rw⟩) (words wordO H.blk) (brs (words wordO H.blk) 10 (vst H.h (hT H many).t last))) ∧ True)
  | true => by kernel_rfl
  | false => by kernel_rfl
theorem press_ac (H : HS) (many : Int) (last : Bool) : AC Try.prog 25 (pargs many last) [hR H, none, none] (.tuple #[]) [hR (press H many last), none, none] := by
  refine runNH_ok pressEs_ok Try.func25 (by kernel_rfl) ?_ (pressR H many last) rfl rfl rfl
  rw [pressP]
  exact ⟨loopP rfl rfl _ _, trivial⟩
/-- A hash, read out of its cells. -/
def hOf : List Value → Option HS
  | .int .i64 s :: .int .u32 x0 :: .int .u32 x1 :: .int .u32 x2 :: .int .u32 x3 :: .int .u32 x4 :: .int .u32 x5 :: .int .u32 x6 :: .int .u32 x7 :: r => match u8s (r.take 64), r.drop 64 with
    | some b, [.int .i64 n, .int .u64 t] => if b.length = 64 then some ⟨s, ⟨x0, x1, x2, x3, x4, x5, x6, x7⟩, fun i => b.getD i 0, n, t⟩ else none
    | _, _ => none
  | _ => none
theorem hOf_spec {l : List Value} {H : HS} (h : hOf l = some H) : l = H.cells := by
  unfold hOf at h
  split at h
  · rename_i r
    split at h
    · rename_i b n t hb hd
      split at h
      · rename_i hl
        cases h
        have e := u8s_spec hb
        rw [list_range hl] at e
        have : r = r.take 64 ++ r.drop 64 := (List.take_append_drop 64 r).symm
        rw [e, hd] at this
        rw [this]
        rfl
      · cases h
    · cases h
  · cases h
def pressSpec (args : List Value) (st : St) : Option (Value × St) :=
  match args, st with
  | [.pointer (some ⟨0, 0, none⟩), .int .i64 many, .bool last], [some ⟨cs, .rw⟩, none, none] => match hOf cs with
    | some H => some (.tuple #[], [hR (press H many last), none, none])
    | none => none
  | _, _ => none
noncomputable def pressE : Entry := ⟨25, [.ptr 75 true, .val, .val], pressSpec⟩
theorem pressE_ok : EntryOk Try.prog pressE := by
  refine ⟨fun a s r s' h => ?_, body_of Try.func25 (by kernel_rfl) (by kernel_rfl)⟩
  simp only [pressE] at h
  unfold pressSpec at h
  split at h
  · split at h
    · rename_i H hH
      cases h
      rw [hOf_spec hH]
      exact press_ac H _ _
    · cases h
  · cases h
end Go.Proofs.Ytggkdjhgknghcaa.Bl
