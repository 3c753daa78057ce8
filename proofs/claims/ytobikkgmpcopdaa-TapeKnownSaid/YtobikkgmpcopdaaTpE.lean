/- Tapes, the program's: entries of New, Key, Count, and calls of them; numbers of seven bytes. Without conditions. -/
import Derived.Test.YtobikkgmpcopdaaTpD
namespace Go.Proofs.Ytobikkgmpcopdaa.Tp
open Am Run IntWalk Bl Byt Kd

/-! What is handed over as a whole region. -/
theorem smalls_whole {st : St} {p n : Nat} {w : Bool} {cs : List Value} {r : List (Option Fp)} {q : St} (hp : st[p]? = some (some ⟨cs, .rw⟩)) (hn : cs.length = n) (hpl : cs.all plain0 = true) (hr : smalls st r = some q) :
    smalls st (some ⟨p, 0, n, w⟩ :: r) = some (some ⟨cs, if w then .rw else .ro⟩ :: q) := by
  have e : (cs.drop 0).take n = cs := by rw [List.drop_zero, ← hn, List.take_length]
  simp only [smalls, hp, e, hr]
  rw [if_pos ⟨by omega, hpl, by simp⟩]
theorem oneC_plain0 : ∀ {l : List Value}, l.all plain0 = true → l.all oneC = true := by
  intro l h
  rw [List.all_eq_true] at h ⊢
  intro x hx
  have := h x hx
  cases x <;> first | rfl | (simp [plain0] at this)
theorem wb_whole {st : St} {p n : Nat} {cs ds : List Value} {r : List (Option Fp)} {q : St} (hp : st[p]? = some (some ⟨cs, .rw⟩)) (hn : cs.length = n) (hd : ds.length = n) (hpl : ds.all plain0 = true) :
    wb st (some ⟨p, 0, n, true⟩ :: r) (some ⟨ds, .rw⟩ :: q) = wb (st.set p (some ⟨ds, .rw⟩)) r q := by
  have e : wr st p 0 ds = some (st.set p (some ⟨ds, .rw⟩)) := by
    unfold wr
    rw [hp]
    simp only
    rw [if_pos ⟨by simp, by omega, oneC_plain0 hpl⟩]
    have e1 : splice cs 0 ds = ds := by
      unfold splice
      split
      · rename_i v
        match cs, (hn.trans hd.symm) with
        | [c], _ => rfl
      · rw [List.take_zero, List.nil_append, List.drop_of_length_le (by omega), List.append_nil]
    rw [e1]
  simp only [wb]
  rw [if_pos trivial, if_pos ⟨hd, hpl⟩, e]

/-! A tape, read out of its cells. -/
def tpB (b : Bool) (Z : Nat → Int) (n : Int) : List Value := .bool b :: ((k32 Z).map (.int .u8) ++ [.int .i64 n])
def tpOf : List Value → Option (Bool × (Nat → Int) × Int)
  | .bool b :: r => match u8s (r.take 32), r.drop 32 with
    | some k, [.int .i64 n] => if k.length = 32 then some (b, (fun i => k.getD i 0), n) else none
    | _, _ => none
  | _ => none
theorem tpOf_spec {l : List Value} {b : Bool} {Z : Nat → Int} {n : Int} (h : tpOf l = some (b, Z, n)) : l = tpB b Z n := by
  unfold tpOf at h
  split at h
  · rename_i b' r
    split at h
    · rename_i k n' hb hd
      split at h
      · rename_i hl
        cases h
        have : r = r.take 32 ++ r.drop 32 := (List.take_append_drop 32 r).symm
        rw [u8s_spec hb, hd] at this
        rw [this]
        unfold tpB
        rw [← k32_of hl]
      · cases h
    · cases h
  · cases h
theorem tpOf_B (b : Bool) (Z : Nat → Int) (n : Int) : tpOf (tpB b Z n) = some (b, (fun i => (k32 Z).getD i 0), n) := rfl
theorem k32_k32 (Z : Nat → Int) : k32 (fun i => (k32 Z).getD i 0) = k32 Z := (k32_of (k32_length Z)).symm
theorem inL_k32 (Z : Nat → Int) (n : Int) : inL (fun i => (k32 Z).getD i 0) n = inL Z n := by unfold inL; rw [k32_k32]
theorem tpB_k32 (b : Bool) (Z : Nat → Int) (n : Int) : tpB b (fun i => (k32 Z).getD i 0) n = tpB b Z n := by unfold tpB; rw [k32_k32]
theorem tpB_len (b : Bool) (Z : Nat → Int) (n : Int) : (tpB b Z n).length = 34 := rfl
theorem tpB_plain (b : Bool) (Z : Nat → Int) (n : Int) : (tpB b Z n).all plain0 = true := rfl

/-! New -/
def newTSpec (R : (Nat → Int) → Option Reg) (args : List Value) (st : St) : Option (Value × St) :=
  match args, st with
  | [.agg cs], [none] => match u8s cs.toList with
    | some k => if k.length = 32 then some (.pointer (some ⟨1, 0, none⟩), [none, R (fun i => k.getD i 0)]) else none
    | none => none
  | _, _ => none
theorem newT_ok {R : (Nat → Int) → Option Reg} {f : FuncId} {fn : Func} (hf : Try.prog.funcs[f]? = some fn) (hn : (fn.name == "runtime.NumGoroutine") = false) (hb : fn.body.isNone = false)
    (h : ∀ Z : Nat → Int, AC Try.prog f [kag (k32 Z)] [none] (.pointer (some ⟨1, 0, none⟩)) [none, R Z]) : EntryOk Try.prog ⟨f, [.val], newTSpec R⟩ := by
  refine ⟨fun a s r s' hh => ?_, body_of hf hn hb⟩
  simp only at hh
  unfold newTSpec at hh
  split at hh
  · rename_i cs
    split at hh
    · rename_i k hk
      split at hh
      · rename_i hc
        cases hh
        have h1 := u8s_spec hk
        have e : cs = ⟨k.map (.int .u8)⟩ := by cases cs; simp only at h1; rw [h1]
        have := h (fun i => k.getD i 0)
        rw [← k32_of hc] at this
        rw [e]
        exact this
      · cases hh
    · cases hh
  · cases hh
noncomputable def newTE : Entry := ⟨10, [.val], newTSpec fun Z => tpR Z 0⟩
theorem newTE_ok : EntryOk Try.prog newTE := newT_ok Try.func10 (by kernel_rfl) (by kernel_rfl) new_ac

/-! Key of a tape that is none -/
theorem keyNilR : goN [bsumE] 0 Try.f12 [.pointer none] [none] = some (.tuple #[zag, .int .i64 1], [none]) := by kernel_rfl
theorem keyZeroR (Z : Nat → Int) (n : Int) : goN [bsumE] 0 Try.f12 [pR 0] [some ⟨tpB false Z n, .rw⟩] = some (.tuple #[zag, .int .i64 1], [some ⟨tpB false Z n, .rw⟩]) := by kernel_rfl
theorem keyNilF : goF [bsumE] 0 Try.f12 [.pointer none] [none] = some (.tuple #[zag, .int .i64 1], [none, zR]) := by kernel_rfl
theorem keyZeroF (Z : Nat → Int) (n : Int) : goF [bsumE] 0 Try.f12 [pR 0] [some ⟨tpB false Z n, .rw⟩] = some (.tuple #[zag, .int .i64 1], [some ⟨tpB false Z n, .rw⟩, zR]) := by kernel_rfl
theorem sub_zag (e : Int) (σ : Sig) : sub σ (.tuple #[zag, .int .i64 e]) = some (.tuple #[zag, .int .i64 e]) := by kernel_rfl
theorem keyNil_ac : AC Try.prog 12 [.pointer none] [none] (.tuple #[zag, .int .i64 1]) [none] :=
  view_plain (run_ok (es1 bsumE_ok) Try.func12 (by kernel_rfl) keyNilF) [0] rfl rfl rfl rfl (sub_zag _ _)
theorem keyZero_ac (Z : Nat → Int) (n : Int) : AC Try.prog 12 [pR 0] [some ⟨tpB false Z n, .rw⟩] (.tuple #[zag, .int .i64 1]) [some ⟨tpB false Z n, .rw⟩] :=
  view_plain (run_ok (es1 bsumE_ok) Try.func12 (by kernel_rfl) (keyZeroF Z n)) [0] rfl rfl rfl rfl (sub_zag _ _)
def keySpec (args : List Value) (st : St) : Option (Value × St) :=
  match args, st with
  | [.pointer (some ⟨0, 0, none⟩)], [some ⟨cs, .rw⟩] => match tpOf cs with
    | some (true, Z, n) => if 0 ≤ n ∧ n < 9007199254740991 then some (.tuple #[ag (dgv wordO (inL Z n)), .int .i64 0], [some ⟨tpB true Z (n + 1), .rw⟩]) else none
    | some (false, Z, n) => some (.tuple #[zag, .int .i64 1], [some ⟨tpB false Z n, .rw⟩])
    | none => none
  | [.pointer none], [none] => some (.tuple #[zag, .int .i64 1], [none])
  | _, _ => none
noncomputable def keyE : Entry := ⟨12, [.ptr 34 true], keySpec⟩
theorem keyE_ok : EntryOk Try.prog keyE := by
  refine ⟨fun a s r s' h => ?_, body_of Try.func12 (by kernel_rfl) (by kernel_rfl)⟩
  simp only [keyE] at h
  unfold keySpec at h
  split at h
  · rename_i cs
    split at h
    · rename_i Z n ho
      split at h
      · rename_i hc
        cases h
        rw [tpOf_spec ho]
        exact key_ac Z hc.1 hc.2
      · cases h
    · rename_i Z n ho
      cases h
      rw [tpOf_spec ho]
      exact keyZero_ac Z n
    · cases h
  · cases h; exact keyNil_ac
  · cases h
theorem gset {st st' : St} {v : Value} (h : gcall0 0 keyE.ks keyE.spec [] st = some (v, st' ++ [])) : gcall0 0 keyE.ks keyE.spec [] st = some (v, st') := by simpa using h
theorem owe_key {st : St} {p len : Nat} {Z : Nat → Int} {n : Int} (hp : st[p]? = some (tpR Z n)) (h0 : 0 ≤ n) (h : n < 9007199254740991) :
    effI (callE keyE.ks keyE.spec [pR p] st) (greads keyE.ks [pR p]) len = some (.tuple #[ag (dgv wordO (inL Z n)), .int .i64 0], st.set p (tpR Z (n + 1)), .eff [p] len) := by
  refine owe_write (sargs := [pR 0]) (fps := [some ⟨p, 0, 34, true⟩]) rfl rfl rfl rfl ?_
  rw [gcall_of0 rfl]
  have := gcall0_do (e := 0) (ks := keyE.ks) (spec := keyE.spec) (args := [pR p]) (sargs := [pR 0]) (fps := [some ⟨p, 0, 34, true⟩]) (st := st) (sst := [tpR Z n]) (sst' := [tpR Z (n + 1)]) (st1 := st.set p (tpR Z (n + 1))) (news := []) (news' := []) (res := .tuple #[ag (dgv wordO (inL Z n)), .int .i64 0]) (res' := .tuple #[ag (dgv wordO (inL Z n)), .int .i64 0])
    rfl (smalls_whole (w := true) hp rfl rfl smalls_nil) (by simp [disjFps]) (by
      show keySpec [pR 0] [some ⟨tpB true Z n, .rw⟩] = _
      simp only [keySpec, pR, tpOf_B]
      rw [if_pos ⟨h0, h⟩, inL_k32, tpB_k32]
      rfl) rfl (by
      rw [show ([tpR Z (n + 1)] : St) = some ⟨tpC Z (n + 1), .rw⟩ :: [] from rfl]
      exact (wb_whole (n := 34) hp rfl rfl rfl).trans wb_nil) rfl (sub_key _ _ _)
  simpa using this

/-! Count -/
def cntSpec (args : List Value) (st : St) : Option (Value × St) :=
  match args, st with
  | [.pointer (some ⟨0, 0, none⟩)], [some ⟨cs, .ro⟩] => match tpOf cs with
    | some (b, Z, n) => some (.int .i64 n, [some ⟨tpB b Z n, .ro⟩])
    | none => none
  | [.pointer none], [none] => some (.int .i64 0, [none])
  | _, _ => none
theorem cntR (b : Bool) (Z : Nat → Int) (n : Int) : goN [] 0 Try.f16 [pR 0] [some ⟨tpB b Z n, .ro⟩] = some (.int .i64 n, [some ⟨tpB b Z n, .ro⟩]) := by kernel_rfl
theorem cntNilR : goN [] 0 Try.f16 [.pointer none] [none] = some (.int .i64 0, [none]) := by kernel_rfl
noncomputable def cntE : Entry := ⟨16, [.ptr 34 false], cntSpec⟩
theorem cntE_ok : EntryOk Try.prog cntE := by
  refine ⟨fun a s r s' h => ?_, body_of Try.func16 (by kernel_rfl) (by kernel_rfl)⟩
  simp only [cntE] at h
  unfold cntSpec at h
  split at h
  · split at h
    · rename_i b Z n ho
      cases h
      rw [tpOf_spec ho]
      exact runN_ok es0 Try.func16 (by kernel_rfl) (cntR b Z n) rfl rfl rfl
    · cases h
  · cases h; exact runN_ok es0 Try.func16 (by kernel_rfl) cntNilR rfl rfl rfl
  · cases h

/-! Numbers of seven bytes -/
def s7 (l : List Int) : Nat → Int
  | 0 => 0
  | k + 1 => s7 l k * 256 + l.getD k 0
def num64 (l : List Int) : Nat → Int
  | 0 => 0
  | k + 1 => IntKind.u64.wrap (BitVec.ofInt (IntKind.bits .u64) (IntKind.u64.wrap (num64 l k * 2 ^ (min (Int.toNat 8) (IntKind.bits .u64)))) ||| BitVec.ofInt (IntKind.bits .u64) (IntKind.u64.wrap (l.getD k 0))).toNat
def numI (l : List Int) : Nat → Int
  | 0 => 0
  | k + 1 => IntKind.i64.wrap (IntKind.i64.wrap (numI l k * 256) + IntKind.i64.wrap (l.getD k 0))
theorem s7_bound {l : List Int} (h : ∀ x ∈ l, B8 x) : ∀ k, 0 ≤ s7 l k ∧ s7 l k < 256 ^ k
  | 0 => by simp [s7]
  | k + 1 => by
    have := s7_bound h k
    have hb := getD_B8 h k
    unfold B8 at hb
    have e : (256 : Int) ^ (k + 1) = 256 ^ k * 256 := Int.pow_succ _ _
    unfold s7
    rw [e]
    generalize (256 : Int) ^ k = q at *
    omega
theorem s7_7 {l : List Int} (h : ∀ x ∈ l, B8 x) : 0 ≤ s7 l 7 ∧ s7 l 7 < 72057594037927936 := by
  have := s7_bound h 7
  rw [show (256 : Int) ^ 7 = 72057594037927936 from by decide] at this
  exact this
theorem s7_le {l : List Int} (h : ∀ x ∈ l, B8 x) {k : Nat} (hk : k ≤ 7) : 0 ≤ s7 l k ∧ s7 l k < 72057594037927936 := by
  have := s7_bound h k
  have e : (256 : Int) ^ k ≤ 256 ^ 7 := by
    match k, hk with
    | 0, _ => decide
    | 1, _ => decide
    | 2, _ => decide
    | 3, _ => decide
    | 4, _ => decide
    | 5, _ => decide
    | 6, _ => decide
    | 7, _ => decide
  rw [show (256 : Int) ^ 7 = 72057594037927936 from by decide] at e
  omega
theorem numI_s7 {l : List Int} (h : ∀ x ∈ l, B8 x) : ∀ k, k ≤ 7 → numI l k = s7 l k
  | 0, _ => rfl
  | k + 1, hk => by
    have h1 := s7_le h (k := k) (by omega)
    have h2 := s7_le h (k := k + 1) hk
    have hb := getD_B8 h k
    unfold B8 at hb
    unfold s7 at h2
    unfold numI s7
    rw [numI_s7 h k (by omega), i64_in (l.getD k 0) (by omega), i64_in (s7 l k * 256) (by omega), i64_in _ (by omega)]
theorem or64 {a c : Nat} (hc : c < 256) (h : a * 256 + c < 18446744073709551616) :
    IntKind.u64.wrap (BitVec.ofInt 64 (IntKind.u64.wrap ((a : Int) * 2 ^ (min (Int.toNat 8) 64))) ||| BitVec.ofInt 64 (IntKind.u64.wrap (c : Int))).toNat = ((a * 256 + c : Nat) : Int) := by
  have e1 : ((a : Int) * 2 ^ (min (Int.toNat 8) 64)) = ((a * 256 : Nat) : Int) := by
    rw [show min (Int.toNat 8) 64 = 8 from rfl]; omega
  rw [e1, u64_in ((a * 256 : Nat) : Int) (by omega), BitVec.toNat_or, BitVec.ofInt_natCast, u64_in (c : Int) (by omega), BitVec.ofInt_natCast, BitVec.toNat_ofNat, BitVec.toNat_ofNat]
  have e2 : a * 256 % 2 ^ 64 = a * 256 := by omega
  have e3 : c % 2 ^ 64 = c := by omega
  rw [e2, e3]
  rw [show a * 256 ||| c = a * 256 + c from by
    rw [Nat.mul_comm a 256, show (256 : Nat) = 2 ^ 8 from rfl, ← Nat.two_pow_add_eq_or_of_lt (by simpa using hc)]]
  exact u64_in _ (by omega)
theorem num64_s7 {l : List Int} (h : ∀ x ∈ l, B8 x) : ∀ k, k ≤ 7 → num64 l k = s7 l k
  | 0, _ => rfl
  | k + 1, hk => by
    have h1 := s7_le h (k := k) (by omega)
    have h2 := s7_le h (k := k + 1) hk
    have hb := getD_B8 h k
    unfold B8 at hb
    unfold s7 at h2
    unfold num64 s7
    rw [num64_s7 h k (by omega)]
    obtain ⟨a, ha⟩ := Int.eq_ofNat_of_zero_le h1.1
    obtain ⟨c, hc⟩ := Int.eq_ofNat_of_zero_le hb.1
    rw [ha, hc] at h2
    rw [ha, hc]
    have := or64 (a := a) (c := c) (by omega) (by omega)
    rw [show IntKind.bits .u64 = 64 from rfl, this]
    omega
end Go.Proofs.Ytobikkgmpcopdaa.Tp
