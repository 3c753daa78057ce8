/- Tapes: Number and Count, and the law's seven. Without conditions. -/
import Derived.Test.YtobikkgmpcopdaaTpE
namespace Go.Proofs.Ytobikkgmpcopdaa.Tp
open Am Run IntWalk Bl Byt Kd

def keyV (g : V8) : Value := .tuple #[ag g, .int .i64 0]
def numV (x : Int) : Value := .tuple #[.int .i64 x, .int .i64 0]
/-! Number -/
def hN (Z : Nat → Int) (c1 : Int) (g : V8) (q : Int) : Hint := ⟨fun r i => match r, i with
  | 3, 1 => some (.pure (.bool false))
  | 3, 4 => some (.pure (.bool false))
  | 5, 1 => some (.eff (keyV g) (fun s => s.set 0 (tpR Z c1)) [0])
  | 14, 3 => some (.pure (.int .u64 q))
  | _, _ => none, fun _ => none⟩
def hNlow : Hint := ⟨fun r i => match r, i with
  | 3, 1 => some (.pure (.bool true))
  | _, _ => none, fun _ => none⟩
def hNhigh : Hint := ⟨fun r i => match r, i with
  | 3, 1 => some (.pure (.bool false))
  | 3, 4 => some (.pure (.bool true))
  | _, _ => none, fun _ => none⟩
def aN (m : Int) : List Value := [pR 0, .int .i64 m]
theorem numR (Z : Nat → Int) (c c1 m q : Int) (g : V8) : goNH [keyE] (hN Z c1 g q) 8 Try.f14 (aN m) [tpR Z c, none] = some (numV (IntKind.i64.wrap q), [tpR Z c1, none]) := by kernel_rfl
theorem numP (Z : Nat → Int) (c c1 m q : Int) (g : V8) : owes [keyE] (hN Z c1 g q) 8 Try.f14 (aN m) [tpR Z c, none] =
    (aint .lss .i64 m 1 = some (.bool false) ∧ aint .gtr .i64 m 9007199254740991 = some (.bool false) ∧
     ((none : Option Value) = none ∧ effI (callE keyE.ks keyE.spec [pR 0] [tpR Z c, none]) (greads keyE.ks [pR 0]) 2 = some (keyV g, [tpR Z c1, none], .eff [0] 2)) ∧
     aint .rem .u64 (num64 (out8 g) 7) (IntKind.u64.wrap m) = some (.int .u64 q) ∧ True) := by kernel_rfl
theorem numLowR (Z : Nat → Int) (c m : Int) : goNH [keyE] hNlow 8 Try.f14 (aN m) [tpR Z c, none] = some (.tuple #[.int .i64 0, .int .i64 9], [tpR Z c, none]) := by kernel_rfl
theorem numLowP (Z : Nat → Int) (c m : Int) : owes [keyE] hNlow 8 Try.f14 (aN m) [tpR Z c, none] = (aint .lss .i64 m 1 = some (.bool true) ∧ True) := by kernel_rfl
theorem numHighR (Z : Nat → Int) (c m : Int) : goNH [keyE] hNhigh 8 Try.f14 (aN m) [tpR Z c, none] = some (.tuple #[.int .i64 0, .int .i64 9], [tpR Z c, none]) := by kernel_rfl
theorem numHighP (Z : Nat → Int) (c m : Int) : owes [keyE] hNhigh 8 Try.f14 (aN m) [tpR Z c, none] = (aint .lss .i64 m 1 = some (.bool false) ∧ aint .gtr .i64 m 9007199254740991 = some (.bool true) ∧ True) := by kernel_rfl
theorem numNilR (m : Int) : goN [keyE] 8 Try.f14 [.pointer none, .int .i64 m] [none, none] = some (.tuple #[.int .i64 0, .int .i64 1], [none, none]) := by kernel_rfl
theorem numZeroR (Z : Nat → Int) (c m : Int) : goN [keyE] 8 Try.f14 (aN m) [some ⟨tpB false Z c, .rw⟩, none] = some (.tuple #[.int .i64 0, .int .i64 1], [some ⟨tpB false Z c, .rw⟩, none]) := by kernel_rfl
/-- The number of seven bytes of the c-th draw. -/
def nT (w : WD) (Z : Nat → Int) (c : Int) : Int := s7 (out8 (dgv w (inL Z c))) 7
theorem nT_bound (w : WD) (Z : Nat → Int) (c : Int) : 0 ≤ nT w Z c ∧ nT w Z c < 72057594037927936 := s7_7 (out8_B8 _)
theorem num_ac (Z : Nat → Int) {c m : Int} (h0 : 0 ≤ c) (h : c < 9007199254740991) (h1 : 1 ≤ m) (h2 : m ≤ 9007199254740991) : AC Try.prog 14 (aN m) [tpR Z c, none] (numV (nT wordO Z c % m)) [tpR Z (c + 1), none] := by
  have hb := nT_bound wordO Z c
  have hm := Int.emod_nonneg (nT wordO Z c) (show m ≠ 0 by omega)
  have hm2 := Int.emod_lt_of_pos (nT wordO Z c) (show 0 < m by omega)
  have hR := numR Z c (c + 1) m (nT wordO Z c % m) (dgv wordO (inL Z c))
  rw [i64_in _ (by omega)] at hR
  refine runNH_ok (es1 keyE_ok) Try.func14 (by kernel_rfl) ?_ hR rfl rfl rfl
  rw [numP]
  refine ⟨lss_eq (by simp; omega), gtr_eq (by simp; omega), ⟨rfl, owe_key rfl h0 h⟩, ?_, trivial⟩
  rw [num64_s7 (out8_B8 _) 7 (Nat.le_refl _), u64_in m (by omega)]
  show aint .rem .u64 (nT wordO Z c) m = _
  simp only [aint]
  rw [if_neg (by omega), Int.tmod_eq_emod_of_nonneg hb.1]
theorem numBad_ac (Z : Nat → Int) {c m : Int} (h : m < 1 ∨ 9007199254740991 < m) : AC Try.prog 14 (aN m) [tpR Z c, none] (.tuple #[.int .i64 0, .int .i64 9]) [tpR Z c, none] := by
  by_cases h1 : m < 1
  · refine runNH_ok (es1 keyE_ok) Try.func14 (by kernel_rfl) ?_ (numLowR Z c m) rfl rfl rfl
    rw [numLowP]
    exact ⟨lss_eq (by simpa using h1), trivial⟩
  · refine runNH_ok (es1 keyE_ok) Try.func14 (by kernel_rfl) ?_ (numHighR Z c m) rfl rfl rfl
    rw [numHighP]
    exact ⟨lss_eq (by simpa using h1), gtr_eq (by simp; omega), trivial⟩
def numSpec (args : List Value) (st : St) : Option (Value × St) :=
  match args, st with
  | [.pointer (some ⟨0, 0, none⟩), .int .i64 m], [some ⟨cs, .rw⟩, none] => match tpOf cs with
    | some (true, Z, c) => if m < 1 ∨ 9007199254740991 < m then some (.tuple #[.int .i64 0, .int .i64 9], [tpR Z c, none])
      else if 0 ≤ c ∧ c < 9007199254740991 then some (numV (nT wordO Z c % m), [tpR Z (c + 1), none]) else none
    | some (false, Z, c) => some (.tuple #[.int .i64 0, .int .i64 1], [some ⟨tpB false Z c, .rw⟩, none])
    | none => none
  | [.pointer none, .int .i64 _], [none, none] => some (.tuple #[.int .i64 0, .int .i64 1], [none, none])
  | _, _ => none
noncomputable def numE : Entry := ⟨14, [.ptr 34 true, .val], numSpec⟩
theorem numE_ok : EntryOk Try.prog numE := by
  refine ⟨fun a s r s' h => ?_, body_of Try.func14 (by kernel_rfl) (by kernel_rfl)⟩
  simp only [numE] at h
  unfold numSpec at h
  split at h
  · rename_i m cs
    split at h
    · rename_i Z c ho
      have e := tpOf_spec ho
      subst e
      split at h
      · rename_i hc
        cases h
        exact numBad_ac Z hc
      · rename_i hc
        split at h
        · rename_i hc2
          cases h
          exact num_ac Z hc2.1 hc2.2 (by omega) (by omega)
        · cases h
    · rename_i Z c ho
      cases h
      rw [tpOf_spec ho]
      exact runN_ok (es1 keyE_ok) Try.func14 (by kernel_rfl) (numZeroR Z c m) rfl rfl rfl
    · cases h
  · rename_i m
    cases h
    exact runN_ok (es1 keyE_ok) Try.func14 (by kernel_rfl) (numNilR m) rfl rfl rfl
  · cases h
theorem nT_k32 (w : WD) (Z : Nat → Int) (n : Int) : nT w (fun i => (k32 Z).getD i 0) n = nT w Z n := by unfold nT; rw [inL_k32]
theorem tpR_k32 (Z : Nat → Int) (n : Int) : tpR (fun i => (k32 Z).getD i 0) n = tpR Z n := by unfold tpR tpC; rw [k32_k32]
theorem owe_num {st : St} {p len : Nat} {Z : Nat → Int} {n m : Int} (hp : st[p]? = some (tpR Z n)) (h0 : 0 ≤ n) (h : n < 9007199254740991) (h1 : 1 ≤ m) (h2 : m ≤ 9007199254740991) :
    effI (callE numE.ks numE.spec [pR p, .int .i64 m] st) (greads numE.ks [pR p, .int .i64 m]) len = some (numV (nT wordO Z n % m), st.set p (tpR Z (n + 1)), .eff [p] len) := by
  refine owe_write (sargs := aN m) (fps := [some ⟨p, 0, 34, true⟩, none]) rfl rfl rfl rfl ?_
  rw [gcall_of0 rfl]
  have := gcall0_do (e := 0) (ks := numE.ks) (spec := numE.spec) (args := [pR p, .int .i64 m]) (sargs := aN m) (fps := [some ⟨p, 0, 34, true⟩, none]) (st := st) (sst := [tpR Z n, none]) (sst' := [tpR Z (n + 1), none]) (st1 := st.set p (tpR Z (n + 1))) (news := []) (news' := []) (res := numV (nT wordO Z n % m)) (res' := numV (nT wordO Z n % m))
    rfl (smalls_whole (w := true) hp rfl rfl (smalls_none smalls_nil)) (by simp [disjFps]) (by
      show numSpec (aN m) [some ⟨tpB true Z n, .rw⟩, none] = _
      simp only [numSpec, aN, pR, tpOf_B]
      rw [if_neg (by omega), if_pos ⟨h0, h⟩, nT_k32, tpR_k32]
      rfl) rfl (by
      rw [show ([tpR Z (n + 1), none] : St) = some ⟨tpC Z (n + 1), .rw⟩ :: [none] from rfl]
      exact (wb_whole (n := 34) hp rfl rfl rfl).trans rfl) rfl rfl
  simpa using this
theorem owe_numBad {st : St} {p len : Nat} {Z : Nat → Int} {n m : Int} (hp : st[p]? = some (tpR Z n)) (h : m < 1 ∨ 9007199254740991 < m) :
    effI (callE numE.ks numE.spec [pR p, .int .i64 m] st) (greads numE.ks [pR p, .int .i64 m]) len = some (.tuple #[.int .i64 0, .int .i64 9], st.set p (tpR Z n), .eff [p] len) := by
  refine owe_write (sargs := aN m) (fps := [some ⟨p, 0, 34, true⟩, none]) rfl rfl rfl rfl ?_
  rw [gcall_of0 rfl]
  have := gcall0_do (e := 0) (ks := numE.ks) (spec := numE.spec) (args := [pR p, .int .i64 m]) (sargs := aN m) (fps := [some ⟨p, 0, 34, true⟩, none]) (st := st) (sst := [tpR Z n, none]) (sst' := [tpR Z n, none]) (st1 := st.set p (tpR Z n)) (news := []) (news' := []) (res := .tuple #[.int .i64 0, .int .i64 9]) (res' := .tuple #[.int .i64 0, .int .i64 9])
    rfl (smalls_whole (w := true) hp rfl rfl (smalls_none smalls_nil)) (by simp [disjFps]) (by
      show numSpec (aN m) [some ⟨tpB true Z n, .rw⟩, none] = _
      simp only [numSpec, aN, pR, tpOf_B]
      rw [if_pos h, tpR_k32]
      rfl) rfl (by
      rw [show ([tpR Z n, none] : St) = some ⟨tpC Z n, .rw⟩ :: [none] from rfl]
      exact (wb_whole (n := 34) hp rfl rfl rfl).trans rfl) rfl rfl
  simpa using this

/-! seven -/
theorem sevR (Z : Nat → Int) : goN [] 8 Try.f20 [kag (k32 Z)] [none] = some (.int .i64 (numI (k32 Z) 7), [none]) := by kernel_rfl
def sevSpec (args : List Value) (st : St) : Option (Value × St) :=
  match args, st with
  | [.agg cs], [none] => match u8s cs.toList with
    | some k => if k.length = 32 then some (.int .i64 (numI k 7), [none]) else none
    | none => none
  | _, _ => none
noncomputable def sevE : Entry := ⟨20, [.val], sevSpec⟩
theorem sevE_ok : EntryOk Try.prog sevE := by
  refine ⟨fun a s r s' hh => ?_, body_of Try.func20 (by kernel_rfl) (by kernel_rfl)⟩
  simp only [sevE] at hh
  unfold sevSpec at hh
  split at hh
  · rename_i cs
    split at hh
    · rename_i k hk
      split at hh
      · rename_i hc
        cases hh
        have h1 := u8s_spec hk
        have e : cs = ⟨k.map (.int .u8)⟩ := by cases cs; simp only at h1; rw [h1]
        have := runN_ok es0 Try.func20 (by kernel_rfl) (sevR (fun i => k.getD i 0)) rfl rfl rfl
        rw [← k32_of hc] at this
        rw [e]
        exact this
      · cases hh
    · cases hh
  · cases hh
/-- A call that is handed values alone. -/
theorem owe_vals {ks : List AK} {spec : List Value → St → Option (Value × St)} {args : List Value} {st : St} {len : Nat} {r : Value} {n : Nat} (hb : bares ks args = false) (hp : picks 0 ks 0 args = some (args, List.replicate n none))
    (hs : spec args (List.replicate n none) = some (r, List.replicate n none)) (hr : plain r = true) (hl : st.length = len) : effI (callE ks spec args st) (greads ks args) len = some (r, st, .load []) := by
  have hrd : ∀ n, readIds (List.replicate n none) = some [] := by
    intro n; induction n with
    | zero => rfl
    | succ n ih => simpa [List.replicate_succ, readIds] using ih
  have hsm : ∀ n, smalls st (List.replicate n none) = some (List.replicate n none) := by
    intro n; induction n with
    | zero => rfl
    | succ n ih => rw [List.replicate_succ]; simpa [List.replicate_succ] using smalls_none ih
  have hdj : ∀ n, disjFps (List.replicate n none) = true := by
    intro n; induction n with
    | zero => rfl
    | succ n ih => simpa [List.replicate_succ, disjFps] using ih
  exact owe_see hb hp (hrd n) (gcall_see hb hp (hsm n) (hdj n) hs (fun f hf => by simp [List.mem_replicate] at hf) hr) hl
theorem owe_sev {st : St} {len : Nat} {g : V8} (hl : st.length = len) : effI (callE sevE.ks sevE.spec [ag g] st) (greads sevE.ks [ag g]) len = some (.int .i64 (s7 (out8 g) 7), st, .load []) := by
  refine owe_vals (n := 1) rfl (by simp only [sevE, picks, pick1, plain_ag, if_true]; rfl) ?_ rfl hl
  show sevSpec [.agg ⟨(out8 g).map (.int .u8)⟩] [none] = _
  simp only [sevSpec, u8s_map]
  rw [if_pos (out8_length g), numI_s7 (out8_B8 g) 7 (Nat.le_refl _)]
  rfl
theorem plain_kag (k : List Int) : plain (kag k) = true := plain_u8 k
theorem owe_dr {F : List Int → Int → V8} {st : St} {len : Nat} {k : List Int} {i : Int} (hk : k.length = 32) (hl : st.length = len) :
    effI (callE [.val, .val] (drSpec F) [kag k, .int .i64 i] st) (greads [.val, .val] [kag k, .int .i64 i]) len = some (ag (F k i), st, .load []) := by
  refine owe_vals (n := 2) rfl (by simp only [picks, pick1, plain_kag, if_true]; rfl) ?_ (plain_ag _) hl
  show drSpec F [.agg ⟨k.map (.int .u8)⟩, .int .i64 i] [none, none] = _
  simp only [drSpec, u8s_map]
  rw [if_pos hk]
  rfl
end Go.Proofs.Ytobikkgmpcopdaa.Tp
