/- The law ChachaStream: the machine's run of it. Without conditions. -/
import Derived.Test.YtgifhfoehmalcaaLawTwice
namespace Go.Proofs.Ytgifhfoehmalcaa.Ch
open Am Run IntWalk Byt

def sS (K : Nat → Int) (c : Int) (N : Nat → Int) (m : Nat) (o : List Int) : St := [none, none, some ⟨begC K c N, .rw⟩, byR (List.replicate m 0) (.row 1), byR o (.row 1)]
noncomputable def cS : Code := loopOf 10 (body Try.f8)
def tS (m i : Nat) : List Value := slots 65 [(1, .int .i64 m), (2, pR 2), (5, rowR 4 m), (7, .int .i64 i)]
def hS (i : Nat) (c' x y : Int) : Hint := ⟨fun r k => match r, k with
  | 10, 2 => some (.pure (.bool true))
  | 12, 5 => some (.pure (.int .i64 ((i / 64 : Nat) : Int)))
  | 12, 7 => some (.pure (.int .u32 c'))
  | 13, 2 => some (.pure (.pointer (some ⟨4, i, none⟩)))
  | 13, 3 => some (.load (.int .u8 x) 4)
  | 13, 5 => some (.pure (.int .i64 ((i % 64 : Nat) : Int)))
  | 13, 6 => some (.pure (.pointer (some ⟨5, i % 64, none⟩)))
  | 13, 7 => some (.load (.int .u8 y) 5)
  | 13, 8 => some (.pure (.bool false))
  | 11, 1 => some (.pure (.int .i64 ((i + 1 : Nat) : Int)))
  | _, _ => none, fun _ => none⟩
def hS0 : Hint := ⟨fun r k => match r, k with
  | 10, 2 => some (.pure (.bool false))
  | _, _ => none, fun _ => none⟩
theorem stepS (K N : Nat → Int) (c c' x y : Int) (m i : Nat) (o : List Int) : stepV [BlockE] (hS i c' x y) 0 cS (List.range 5) [] [1, 2, 5, 7] (tS m i) (sS K c N m o) = some (.normal, tS m (i + 1), sS K c N m o) := by kernel_rfl
theorem stepSP (K N : Nat → Int) (c c' x y : Int) (m i : Nat) (o : List Int) : stepP [BlockE] (hS i c' x y) 0 cS (tS m i) (sS K c N m o) =
    (aint .lss .i64 (i : Int) (m : Int) = some (.bool true) ∧ aint .quo .i64 (i : Int) 64 = some (.int .i64 ((i / 64 : Nat) : Int)) ∧ aint .add .u32 c (IntKind.u32.wrap ((i / 64 : Nat) : Int)) = some (.int .u32 c') ∧
     idxAt 4 0 1 m (i : Int) = some (.pointer (some ⟨4, i, none⟩)) ∧ cellAt (sS K c N m o) 4 i = some (.int .u8 x, 4) ∧ aint .rem .i64 (i : Int) 64 = some (.int .i64 ((i % 64 : Nat) : Int)) ∧
     idxAt 5 0 1 64 ((i % 64 : Nat) : Int) = some (.pointer (some ⟨5, i % 64, none⟩)) ∧ cellAt (sS K c N m o ++ [byR (blockOf wordO K c' N) .rw]) 5 (i % 64) = some (.int .u8 y, 5) ∧
     aint .neq .u8 x y = some (.bool false) ∧ aint .add .i64 (i : Int) 1 = some (.int .i64 ((i + 1 : Nat) : Int)) ∧ True) := by kernel_rfl
theorem stopS (K N : Nat → Int) (c : Int) (m : Nat) (o : List Int) : stepV [BlockE] hS0 0 cS (List.range 5) [] [] (tS m m) (sS K c N m o) = some (.exit 0, slots 65 [], sS K c N m o) := by kernel_rfl
theorem stopSP (K N : Nat → Int) (c : Int) (m : Nat) (o : List Int) : stepP [BlockE] hS0 0 cS (tS m m) (sS K c N m o) = (aint .lss .i64 (m : Int) (m : Int) = some (.bool false) ∧ True) := by kernel_rfl
theorem plS (K N : Nat → Int) (c : Int) (m : Nat) (o : List Int) : plainBut [] 0 (sS K c N m o) = true := by
  have h1 : plainReg none = true := rfl
  have h2 : plainReg (some ⟨begC K c N, .rw⟩) = true := rfl
  simp only [sS, plainBut, byR, plainReg_u8, h1, h2, Bool.or_true, Bool.and_true]
theorem byteAt_range (x : Int) (k : Nat) : B8 (byteAt x k) := by
  unfold byteAt B8
  rw [IntKind.wrap_u8]
  omega
theorem block_range {w : Int → Int → Int → Int → Int} {K N : Nat → Int} {c : Int} : ∀ x ∈ blockOf w K c N, B8 x := by
  intro x hx
  unfold blockOf outB at hx
  obtain ⟨z, _, hz⟩ := List.mem_flatMap.1 hx
  simp only [bytes4, List.mem_cons, List.not_mem_nil, or_false] at hz
  rcases hz with rfl | rfl | rfl | rfl <;> exact byteAt_range _ _
theorem stream_range {w : Int → Int → Int → Int → Int} {K N : Nat → Int} {c : Int} (i : Nat) : B8 (stream w K c N i) := by
  unfold stream
  apply block_range (w := w) (K := K) (N := N)
  rw [List.getD_eq_getElem?_getD, List.getElem?_eq_getElem (by rw [blockOf_length]; omega)]
  exact List.getElem_mem _
theorem xor8_zero {y : Int} (h : B8 y) : xor8 0 y = y := by
  obtain ⟨n, rfl⟩ := Int.eq_ofNat_of_zero_le h.1
  have := h.2
  unfold xor8
  rw [show BitVec.ofInt 8 0 = 0#8 from rfl, BitVec.zero_xor, BitVec.ofInt_natCast, BitVec.toNat_ofNat, IntKind.wrap_u8]
  omega
theorem rep_getD (m i : Nat) : (List.replicate m (0 : Int)).getD i 0 = 0 := by
  rw [List.getD_eq_getElem?_getD, List.getElem?_replicate]; split <;> rfl
theorem loopS (K N : Nat → Int) (c : Int) {m : Nat} (hm : m ≤ 300) : RunsP (.loop cS) (tS m 0) (sS K c N m (xorL wordO K c N (List.replicate m 0))) (.exit 0) (slots 65 []) (sS K c N m (xorL wordO K c N (List.replicate m 0))) := by
  refine Runs.count m (tS m) (fun _ => sS K c N m (xorL wordO K c N (List.replicate m 0))) (fun i hi => ?_) ?_ (by simp)
  · have hx : (xorL wordO K c N (List.replicate m 0))[i]? = some (stream wordO K c N i) := by
      rw [xorL_get (by simpa using hi), rep_getD, xor8_zero (stream_range i)]
    refine step_ok (es1 BlockE_ok) ?_ (stepS K N c (IntKind.u32.wrap (c + ((i / 64 : Nat) : Int))) (stream wordO K c N i) (stream wordO K c N i) m i _) (plS _ _ _ _ _)
    rw [stepSP]
    refine ⟨lss_eq (by simp; omega), quo_nat (d := 64) rfl (by decide) (by omega), add_u32 (by simp only [IntKind.wrap_u32]; omega), idx_ok0 hi, cell_u8 rfl hx, rem_nat (d := 64) rfl (by decide), idx_ok0 (by omega), cell_u8 (l := blockOf wordO K (IntKind.u32.wrap (c + ((i / 64 : Nat) : Int))) N) (kd := .rw) rfl ?_, neq_eq (by simp), add_i64 (by omega) (by omega), trivial⟩
    exact getD_get (by rw [blockOf_length]; omega)
  · refine step_ok (es1 BlockE_ok) ?_ (stopS K N c m _) (plS _ _ _ _ _)
    rw [stopSP]
    exact ⟨lss_eq (by simp), trivial⟩

noncomputable def lawStreamEs : List Entry := [worksE, brE, XorE, BlockE]
theorem lawStreamEs_ok : ∀ e ∈ lawStreamEs, EntryOk Try.prog e := esc worksE_ok (esc brE_ok (esc XorE_ok (es1 BlockE_ok)))
def hSw (m : Nat) (K : Nat → Int) (c : Int) (N : Nat → Int) (o : List Int) : Hint := ⟨fun r k => match r, k with
  | 3, 1 => some (.read (.int .i64 (m : Int)) [])
  | 4, 7 => some (.eff (rowR 3 m) (fun s => s ++ [byR (List.replicate m 0) (.row 1)]) [])
  | 4, 8 => some (.eff (.tuple #[rowR 4 m, .int .i64 0]) (fun s => s ++ [byR o (.row 1)]) [])
  | 7, 3 => some (.pure (.bool false))
  | _, _ => none, fun r => if r = 10 then some ([1, 2, 5, 7], fun _ _ => some (.exit 0, slots 65 [], sS K c N m o)) else none⟩
def hSw0 (m : Nat) (c : Int) : Hint := ⟨fun r k => match r, k with
  | 3, 1 => some (.read (.int .i64 (m : Int)) [])
  | 4, 7 => some (.eff (rowR 3 m) (fun s => s ++ [byR (List.replicate m 0) (.row 1)]) [])
  | 4, 8 => some (.read (.tuple #[.slice none 0 0, .int .i64 5]) [3])
  | 6, 2 => some (.pure (.int .u64 c))
  | 6, 4 => some (.pure (.int .i64 ((m + 63 : Nat) : Int)))
  | 6, 5 => some (.pure (.int .u64 ((m + 63 : Nat) : Int)))
  | 6, 6 => some (.pure (.int .u64 (((m + 63) / 64 : Nat) : Int)))
  | 6, 7 => some (.pure (.int .u64 (c + (((m + 63) / 64 : Nat) : Int))))
  | 6, 8 => some (.pure (.bool true))
  | _, _ => none, fun _ => none⟩
def argsS (K : Nat → Int) (c : Int) (N : Nat → Int) (i : Int) : List Value := [.agg ⟨begC K c N⟩, .int .i64 i]
def s2s (K : Nat → Int) (c : Int) (N : Nat → Int) : St := [none, none, some ⟨begC K c N, .rw⟩]
theorem lawStreamR (K N : Nat → Int) (c i : Int) (m : Nat) (o : List Int) : goNH lawStreamEs (hSw m K c N o) 0 Try.f8 (argsS K c N i) [none, none] = some (.bool true, [none, none]) := by kernel_rfl
theorem lawStreamP (K N : Nat → Int) (c i : Int) (m : Nat) (o : List Int) : owes lawStreamEs (hSw m K c N o) 0 Try.f8 (argsS K c N i) [none, none] =
    (((none : Option Value) = none ∧ effI (callE brE.ks brE.spec [.int .i64 i, .int .i64 300] (s2s K c N)) (greads brE.ks [.int .i64 i, .int .i64 300]) 3 = some (.int .i64 (m : Int), s2s K c N, .load [])) ∧
     ((none : Option Value) = none ∧ effI (makeCore (s2s K c N) 1 (.int .u8 0) (m : Int) (m : Int)) none 3 = some (rowR 3 m, s2s K c N ++ [byR (List.replicate m 0) (.row 1)], .eff [] 3)) ∧
     ((none : Option Value) = none ∧ effI (callE XorE.ks XorE.spec (xa K c N (rowR 3 m)) (s2s K c N ++ [byR (List.replicate m 0) (.row 1)])) (greads XorE.ks (xa K c N (rowR 3 m))) 4 =
       some (.tuple #[rowR 4 m, .int .i64 0], (s2s K c N ++ [byR (List.replicate m 0) (.row 1)]) ++ [byR o (.row 1)], .eff [] 4)) ∧
     aint .neq .i64 (m : Int) (m : Int) = some (.bool false) ∧ RunsP (.loop cS) (tS m 0) (sS K c N m o) (.exit 0) (slots 65 []) (sS K c N m o) ∧ True) := by kernel_rfl
theorem lawStreamR0 (K N : Nat → Int) (c i : Int) (m : Nat) : goNH lawStreamEs (hSw0 m c) 0 Try.f8 (argsS K c N i) [none, none] = some (.bool true, [none, none]) := by kernel_rfl
theorem lawStreamP0 (K N : Nat → Int) (c i : Int) (m : Nat) : owes lawStreamEs (hSw0 m c) 0 Try.f8 (argsS K c N i) [none, none] =
    (((none : Option Value) = none ∧ effI (callE brE.ks brE.spec [.int .i64 i, .int .i64 300] (s2s K c N)) (greads brE.ks [.int .i64 i, .int .i64 300]) 3 = some (.int .i64 (m : Int), s2s K c N, .load [])) ∧
     ((none : Option Value) = none ∧ effI (makeCore (s2s K c N) 1 (.int .u8 0) (m : Int) (m : Int)) none 3 = some (rowR 3 m, s2s K c N ++ [byR (List.replicate m 0) (.row 1)], .eff [] 3)) ∧
     ((none : Option Value) = none ∧ effI (callE XorE.ks XorE.spec (xa K c N (rowR 3 m)) (s2s K c N ++ [byR (List.replicate m 0) (.row 1)])) (greads XorE.ks (xa K c N (rowR 3 m))) 4 =
       some (.tuple #[.slice none 0 0, .int .i64 5], s2s K c N ++ [byR (List.replicate m 0) (.row 1)], .load [3])) ∧
     some (Value.int .u64 (IntKind.u64.wrap c)) = some (.int .u64 c) ∧ aint .add .i64 (m : Int) 63 = some (.int .i64 ((m + 63 : Nat) : Int)) ∧
     some (Value.int .u64 (IntKind.u64.wrap ((m + 63 : Nat) : Int))) = some (.int .u64 ((m + 63 : Nat) : Int)) ∧ aint .quo .u64 ((m + 63 : Nat) : Int) 64 = some (.int .u64 (((m + 63) / 64 : Nat) : Int)) ∧
     aint .add .u64 c (((m + 63) / 64 : Nat) : Int) = some (.int .u64 (c + (((m + 63) / 64 : Nat) : Int))) ∧ aint .gtr .u64 (c + (((m + 63) / 64 : Nat) : Int)) 4294967296 = some (.bool true) ∧ True) := by kernel_rfl
theorem lawStream (K N : Nat → Int) (c i : Int) (hc : 0 ≤ c ∧ c ≤ 4294967295) :
    AC Try.prog 8 (argsS K c N i) [none, none] (.bool true) [none, none] := by
  obtain ⟨m, hm⟩ := Int.eq_ofNat_of_zero_le (show 0 ≤ i % 300 from Int.emod_nonneg _ (by omega))
  have hlt : (m : Int) < 300 := by rw [← hm]; exact Int.emod_lt_of_pos _ (by omega)
  have hlr : (List.replicate m (0 : Int)).length = m := by simp
  have h1 : effI (callE brE.ks brE.spec [.int .i64 i, .int .i64 300] (s2s K c N)) (greads brE.ks [.int .i64 i, .int .i64 300]) 3 = some (.int .i64 (m : Int), s2s K c N, .load []) := by
    have := owe_bring (s := s2s K c N) (i := i) (n := 300) (len := 3) (by omega) rfl
    rw [hm] at this
    exact this
  have h2 : effI (makeCore (s2s K c N) 1 (.int .u8 0) (m : Int) (m : Int)) none 3 = some (rowR 3 m, s2s K c N ++ [byR (List.replicate m 0) (.row 1)], .eff [] 3) := by
    rw [make_u8 (by omega)]; rfl
  have hb := Bys.row (st := s2s K c N ++ [byR (List.replicate m 0) (.row 1)]) (i := 3) (l := List.replicate m 0) rfl
  rw [hlr] at hb
  by_cases ht : tooLong m c = true
  · refine runNH_ok lawStreamEs_ok Try.func8 (by kernel_rfl) ?_ (lawStreamR0 K N c i m) rfl rfl rfl
    rw [lawStreamP0]
    obtain ⟨k1, -, -, k4, k5, k6, k7⟩ := lenOk_of hc (show m ≤ 2 ^ 47 by omega) ht
    have h3 := owe_long (w := wordO) (K := K) (N := N) (c := c) (len := 4) hb hc (by rw [hlr]; omega) (by rw [hlr]; exact ht) rfl
    exact ⟨⟨rfl, h1⟩, ⟨rfl, h2⟩, ⟨rfl, h3⟩, k1, add_i64 (by omega) (by omega), k4, k5, k6, k7, trivial⟩
  · have ht : tooLong m c = false := by simpa using ht
    refine runNH_ok lawStreamEs_ok Try.func8 (by kernel_rfl) ?_ (lawStreamR K N c i m (xorL wordO K c N (List.replicate m 0))) rfl rfl rfl
    rw [lawStreamP]
    have h3 := owe_full (w := wordO) (K := K) (N := N) (c := c) (len := 4) hb hc (by rw [hlr]; omega) (by rw [hlr]; exact ht) rfl
    rw [hlr] at h3
    exact ⟨⟨rfl, h1⟩, ⟨rfl, h2⟩, ⟨rfl, h3⟩, neq_eq (by simp), loopS K N c (by omega), trivial⟩
end Go.Proofs.Ytgifhfoehmalcaa.Ch
