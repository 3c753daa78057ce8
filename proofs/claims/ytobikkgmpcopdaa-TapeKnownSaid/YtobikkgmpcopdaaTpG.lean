/- Tapes, the document's: Key and Number. Without conditions. -/
import Derived.Test.YtobikkgmpcopdaaTpF
namespace Go.Proofs.Ytobikkgmpcopdaa.Tp
open Am Run IntWalk Bl Byt Kd

def hRK (n n1 : Int) (g : V8) : Hint := ⟨fun r i => match r, i with
  | 1, 4 => some (.pure (.bool false))
  | 3, 5 => some (.pure (.int .i64 n1))
  | 4, 8 => some (.pure (.int .i64 n))
  | 4, 9 => some (.read (ag g) [])
  | _, _ => none, fun _ => none⟩
theorem rkeyRF (Z : Nat → Int) (n n1 : Int) (g : V8) : goFH [rdrawE] (hRK n n1 g) 0 Try.f13 [pR 0] [rtR Z n] = some (keyV g, [rtR Z n1, byR (out8 g) .rw]) := by kernel_rfl
theorem rkeyP (Z : Nat → Int) (n n1 : Int) (g : V8) : owes [rdrawE] (hRK n n1 g) 0 Try.f13 [pR 0] [rtR Z n] =
    (aint .eql .i64 n 9007199254740991 = some (.bool false) ∧ aint .add .i64 n 1 = some (.int .i64 n1) ∧ aint .sub .i64 n1 1 = some (.int .i64 n) ∧
     ((none : Option Value) = none ∧ effI (callE rdrawE.ks rdrawE.spec [kag (k32 Z), .int .i64 n] [rtR Z n1, zR]) (greads rdrawE.ks [kag (k32 Z), .int .i64 n]) 2 = some (ag g, [rtR Z n1, zR], .load [])) ∧ True) := by kernel_rfl
theorem rkey_ac (Z : Nat → Int) {n : Int} (h0 : 0 ≤ n) (h : n < 9007199254740991) : AC Try.prog 13 [pR 0] [rtR Z n] (keyV (dgv wordA (inL Z n))) [rtR Z (n + 1)] := by
  have hO := runH_ok (es1 rdrawE_ok) Try.func13 (by kernel_rfl) (hint := hRK n (n + 1) (dgv wordA (inL Z n))) (n := 0) (a := [pR 0]) (s := [rtR Z n]) (by
    rw [rkeyP]
    exact ⟨eql_eq (by simp; omega), add_i64 (by omega) (by omega), sub_i64 (by omega) (by omega), ⟨rfl, owe_dr (F := fun k i => dgv wordA (k ++ be8 i)) (k32_length Z) rfl⟩, trivial⟩) (rkeyRF Z n (n + 1) (dgv wordA (inL Z n)))
  exact view_plain hO [0] rfl rfl rfl rfl (sub_key _ _ _)
def rtOf (l : List Value) : Option ((Nat → Int) × Int) :=
  match u8s (l.take 32), l.drop 32 with
  | some k, [.int .i64 n] => if k.length = 32 then some ((fun i => k.getD i 0), n) else none
  | _, _ => none
theorem rtOf_spec {l : List Value} {Z : Nat → Int} {n : Int} (h : rtOf l = some (Z, n)) : l = rtC Z n := by
  unfold rtOf at h
  split at h
  · rename_i k n' hb hd
    split at h
    · rename_i hl
      cases h
      have : l = l.take 32 ++ l.drop 32 := (List.take_append_drop 32 l).symm
      rw [u8s_spec hb, hd] at this
      rw [this]
      unfold rtC
      rw [← k32_of hl]
    · cases h
  · cases h
theorem rtOf_C (Z : Nat → Int) (n : Int) : rtOf (rtC Z n) = some ((fun i => (k32 Z).getD i 0), n) := rfl
theorem rtR_k32 (Z : Nat → Int) (n : Int) : rtR (fun i => (k32 Z).getD i 0) n = rtR Z n := by unfold rtR rtC; rw [k32_k32]
def rkeySpec (args : List Value) (st : St) : Option (Value × St) :=
  match args, st with
  | [.pointer (some ⟨0, 0, none⟩)], [some ⟨cs, .rw⟩] => match rtOf cs with
    | some (Z, n) => if 0 ≤ n ∧ n < 9007199254740991 then some (keyV (dgv wordA (inL Z n)), [rtR Z (n + 1)]) else none
    | none => none
  | _, _ => none
noncomputable def rkeyE : Entry := ⟨13, [.ptr 33 true], rkeySpec⟩
theorem rkeyE_ok : EntryOk Try.prog rkeyE := by
  refine ⟨fun a s r s' h => ?_, body_of Try.func13 (by kernel_rfl) (by kernel_rfl)⟩
  simp only [rkeyE] at h
  unfold rkeySpec at h
  split at h
  · rename_i cs
    split at h
    · rename_i Z n ho
      split at h
      · rename_i hc
        cases h
        rw [rtOf_spec ho]
        exact rkey_ac Z hc.1 hc.2
      · cases h
    · cases h
  · cases h
theorem owe_rkey {st : St} {p len : Nat} {Z : Nat → Int} {n : Int} (hp : st[p]? = some (rtR Z n)) (h0 : 0 ≤ n) (h : n < 9007199254740991) :
    effI (callE rkeyE.ks rkeyE.spec [pR p] st) (greads rkeyE.ks [pR p]) len = some (keyV (dgv wordA (inL Z n)), st.set p (rtR Z (n + 1)), .eff [p] len) := by
  refine owe_write (sargs := [pR 0]) (fps := [some ⟨p, 0, 33, true⟩]) rfl rfl rfl rfl ?_
  rw [gcall_of0 rfl]
  have := gcall0_do (e := 0) (ks := rkeyE.ks) (spec := rkeyE.spec) (args := [pR p]) (sargs := [pR 0]) (fps := [some ⟨p, 0, 33, true⟩]) (st := st) (sst := [rtR Z n]) (sst' := [rtR Z (n + 1)]) (st1 := st.set p (rtR Z (n + 1))) (news := []) (news' := []) (res := keyV (dgv wordA (inL Z n))) (res' := keyV (dgv wordA (inL Z n)))
    rfl (smalls_whole (w := true) hp rfl rfl smalls_nil) (by simp [disjFps]) (by
      show rkeySpec [pR 0] [some ⟨rtC Z n, .rw⟩] = _
      simp only [rkeySpec, pR, rtOf_C]
      rw [if_pos ⟨h0, h⟩, inL_k32, rtR_k32]
      rfl) rfl (by
      rw [show ([rtR Z (n + 1)] : St) = some ⟨rtC Z (n + 1), .rw⟩ :: [] from rfl]
      exact (wb_whole (n := 33) hp rfl rfl rfl).trans wb_nil) rfl (sub_key _ _ _)
  simpa using this

/-! Number -/
def hRN (Z : Nat → Int) (c1 : Int) (g : V8) (q : Int) : Hint := ⟨fun r i => match r, i with
  | 1, 1 => some (.pure (.bool false))
  | 1, 4 => some (.pure (.bool false))
  | 3, 1 => some (.eff (keyV g) (fun s => s.set 0 (rtR Z c1)) [0])
  | 11, 2 => some (.pure (.int .i64 q))
  | _, _ => none, fun _ => none⟩
def hRlow : Hint := ⟨fun r i => match r, i with
  | 1, 1 => some (.pure (.bool true))
  | _, _ => none, fun _ => none⟩
def hRhigh : Hint := ⟨fun r i => match r, i with
  | 1, 1 => some (.pure (.bool false))
  | 1, 4 => some (.pure (.bool true))
  | _, _ => none, fun _ => none⟩
theorem rnumR (Z : Nat → Int) (c c1 m q : Int) (g : V8) : goNH [rkeyE] (hRN Z c1 g q) 8 Try.f15 (aN m) [rtR Z c, none] = some (numV q, [rtR Z c1, none]) := by kernel_rfl
theorem rnumP (Z : Nat → Int) (c c1 m q : Int) (g : V8) : owes [rkeyE] (hRN Z c1 g q) 8 Try.f15 (aN m) [rtR Z c, none] =
    (aint .lss .i64 m 1 = some (.bool false) ∧ aint .gtr .i64 m 9007199254740991 = some (.bool false) ∧
     ((none : Option Value) = none ∧ effI (callE rkeyE.ks rkeyE.spec [pR 0] [rtR Z c, none]) (greads rkeyE.ks [pR 0]) 2 = some (keyV g, [rtR Z c1, none], .eff [0] 2)) ∧
     aint .rem .i64 (numI (out8 g) 7) m = some (.int .i64 q) ∧ True) := by kernel_rfl
theorem rnumLowR (Z : Nat → Int) (c m : Int) : goNH [rkeyE] hRlow 8 Try.f15 (aN m) [rtR Z c, none] = some (.tuple #[.int .i64 0, .int .i64 9], [rtR Z c, none]) := by kernel_rfl
theorem rnumLowP (Z : Nat → Int) (c m : Int) : owes [rkeyE] hRlow 8 Try.f15 (aN m) [rtR Z c, none] = (aint .lss .i64 m 1 = some (.bool true) ∧ True) := by kernel_rfl
theorem rnumHighR (Z : Nat → Int) (c m : Int) : goNH [rkeyE] hRhigh 8 Try.f15 (aN m) [rtR Z c, none] = some (.tuple #[.int .i64 0, .int .i64 9], [rtR Z c, none]) := by kernel_rfl
theorem rnumHighP (Z : Nat → Int) (c m : Int) : owes [rkeyE] hRhigh 8 Try.f15 (aN m) [rtR Z c, none] = (aint .lss .i64 m 1 = some (.bool false) ∧ aint .gtr .i64 m 9007199254740991 = some (.bool true) ∧ True) := by kernel_rfl
theorem rnum_ac (Z : Nat → Int) {c m : Int} (h0 : 0 ≤ c) (h : c < 9007199254740991) (h1 : 1 ≤ m) (h2 : m ≤ 9007199254740991) : AC Try.prog 15 (aN m) [rtR Z c, none] (numV (nT wordA Z c % m)) [rtR Z (c + 1), none] := by
  have hb := nT_bound wordA Z c
  refine runNH_ok (es1 rkeyE_ok) Try.func15 (by kernel_rfl) ?_ (rnumR Z c (c + 1) m (nT wordA Z c % m) (dgv wordA (inL Z c))) rfl rfl rfl
  rw [rnumP]
  refine ⟨lss_eq (by simp; omega), gtr_eq (by simp; omega), ⟨rfl, owe_rkey rfl h0 h⟩, ?_, trivial⟩
  rw [numI_s7 (out8_B8 _) 7 (Nat.le_refl _)]
  show aint .rem .i64 (nT wordA Z c) m = _
  simp only [aint]
  rw [if_neg (by omega), Int.tmod_eq_emod_of_nonneg hb.1]
theorem rnumBad_ac (Z : Nat → Int) {c m : Int} (h : m < 1 ∨ 9007199254740991 < m) : AC Try.prog 15 (aN m) [rtR Z c, none] (.tuple #[.int .i64 0, .int .i64 9]) [rtR Z c, none] := by
  by_cases h1 : m < 1
  · refine runNH_ok (es1 rkeyE_ok) Try.func15 (by kernel_rfl) ?_ (rnumLowR Z c m) rfl rfl rfl
    rw [rnumLowP]
    exact ⟨lss_eq (by simpa using h1), trivial⟩
  · refine runNH_ok (es1 rkeyE_ok) Try.func15 (by kernel_rfl) ?_ (rnumHighR Z c m) rfl rfl rfl
    rw [rnumHighP]
    exact ⟨lss_eq (by simpa using h1), gtr_eq (by simp; omega), trivial⟩
def rnumSpec (args : List Value) (st : St) : Option (Value × St) :=
  match args, st with
  | [.pointer (some ⟨0, 0, none⟩), .int .i64 m], [some ⟨cs, .rw⟩, none] => match rtOf cs with
    | some (Z, c) => if m < 1 ∨ 9007199254740991 < m then some (.tuple #[.int .i64 0, .int .i64 9], [rtR Z c, none])
      else if 0 ≤ c ∧ c < 9007199254740991 then some (numV (nT wordA Z c % m), [rtR Z (c + 1), none]) else none
    | none => none
  | _, _ => none
noncomputable def rnumE : Entry := ⟨15, [.ptr 33 true, .val], rnumSpec⟩
theorem rnumE_ok : EntryOk Try.prog rnumE := by
  refine ⟨fun a s r s' h => ?_, body_of Try.func15 (by kernel_rfl) (by kernel_rfl)⟩
  simp only [rnumE] at h
  unfold rnumSpec at h
  split at h
  · rename_i m cs
    split at h
    · rename_i Z c ho
      have e := rtOf_spec ho
      subst e
      split at h
      · rename_i hc
        cases h
        exact rnumBad_ac Z hc
      · rename_i hc
        split at h
        · rename_i hc2
          cases h
          exact rnum_ac Z hc2.1 hc2.2 (by omega) (by omega)
        · cases h
    · cases h
  · cases h
theorem owe_rnum {st : St} {p len : Nat} {Z : Nat → Int} {n m : Int} (hp : st[p]? = some (rtR Z n)) (h0 : 0 ≤ n) (h : n < 9007199254740991) (h1 : 1 ≤ m) (h2 : m ≤ 9007199254740991) :
    effI (callE rnumE.ks rnumE.spec [pR p, .int .i64 m] st) (greads rnumE.ks [pR p, .int .i64 m]) len = some (numV (nT wordA Z n % m), st.set p (rtR Z (n + 1)), .eff [p] len) := by
  refine owe_write (sargs := aN m) (fps := [some ⟨p, 0, 33, true⟩, none]) rfl rfl rfl rfl ?_
  rw [gcall_of0 rfl]
  have := gcall0_do (e := 0) (ks := rnumE.ks) (spec := rnumE.spec) (args := [pR p, .int .i64 m]) (sargs := aN m) (fps := [some ⟨p, 0, 33, true⟩, none]) (st := st) (sst := [rtR Z n, none]) (sst' := [rtR Z (n + 1), none]) (st1 := st.set p (rtR Z (n + 1))) (news := []) (news' := []) (res := numV (nT wordA Z n % m)) (res' := numV (nT wordA Z n % m))
    rfl (smalls_whole (w := true) hp rfl rfl (smalls_none smalls_nil)) (by simp [disjFps]) (by
      show rnumSpec (aN m) [some ⟨rtC Z n, .rw⟩, none] = _
      simp only [rnumSpec, aN, pR, rtOf_C]
      rw [if_neg (by omega), if_pos ⟨h0, h⟩, nT_k32, rtR_k32]
      rfl) rfl (by
      rw [show ([rtR Z (n + 1), none] : St) = some ⟨rtC Z (n + 1), .rw⟩ :: [none] from rfl]
      exact (wb_whole (n := 33) hp rfl rfl rfl).trans rfl) rfl rfl
  simpa using this
theorem owe_rnumBad {st : St} {p len : Nat} {Z : Nat → Int} {n m : Int} (hp : st[p]? = some (rtR Z n)) (h : m < 1 ∨ 9007199254740991 < m) :
    effI (callE rnumE.ks rnumE.spec [pR p, .int .i64 m] st) (greads rnumE.ks [pR p, .int .i64 m]) len = some (.tuple #[.int .i64 0, .int .i64 9], st.set p (rtR Z n), .eff [p] len) := by
  refine owe_write (sargs := aN m) (fps := [some ⟨p, 0, 33, true⟩, none]) rfl rfl rfl rfl ?_
  rw [gcall_of0 rfl]
  have := gcall0_do (e := 0) (ks := rnumE.ks) (spec := rnumE.spec) (args := [pR p, .int .i64 m]) (sargs := aN m) (fps := [some ⟨p, 0, 33, true⟩, none]) (st := st) (sst := [rtR Z n, none]) (sst' := [rtR Z n, none]) (st1 := st.set p (rtR Z n)) (news := []) (news' := []) (res := .tuple #[.int .i64 0, .int .i64 9]) (res' := .tuple #[.int .i64 0, .int .i64 9])
    rfl (smalls_whole (w := true) hp rfl rfl (smalls_none smalls_nil)) (by simp [disjFps]) (by
      show rnumSpec (aN m) [some ⟨rtC Z n, .rw⟩, none] = _
      simp only [rnumSpec, aN, pR, rtOf_C]
      rw [if_pos h, rtR_k32]
      rfl) rfl (by
      rw [show ([rtR Z n, none] : St) = some ⟨rtC Z n, .rw⟩ :: [none] from rfl]
      exact (wb_whole (n := 33) hp rfl rfl rfl).trans rfl) rfl rfl
  simpa using this
noncomputable def rnewTE : Entry := ⟨11, [.val], newTSpec fun Z => rtR Z 0⟩
theorem rnewTE_ok : EntryOk Try.prog rnewTE := newT_ok Try.func11 (by kernel_rfl) (by kernel_rfl) rnew_ac
end Go.Proofs.Ytobikkgmpcopdaa.Tp
