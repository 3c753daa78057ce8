/- The laws ChachaTwice and ChachaFrom: the machine's runs of them, of all bytes. Without conditions. -/
import Derived.Test.YtgifhfoehmalcaaChP
namespace Go.Proofs.Ytgifhfoehmalcaa.Ch
open Am Run IntWalk Byt

def argsB (K : Nat → Int) (c : Int) (N : Nat → Int) (n : Nat) : List Value := [.agg ⟨begC K c N⟩, slR 1 n]
def xa (K : Nat → Int) (c : Int) (N : Nat → Int) (v : Value) : List Value := [.agg ⟨u8N 32 K⟩, .int .u32 c, .agg ⟨u8N 12 N⟩, v]
def s2 (b : List Int) (K : Nat → Int) (c : Int) (N : Nat → Int) : St := [none, byR b .ro, some ⟨begC K c N, .rw⟩]
theorem xorL_get {w : Int → Int → Int → Int → Int} {K N : Nat → Int} {c : Int} {b : List Int} {i : Nat} (h : i < b.length) : (xorL w K c N b)[i]? = some (xor8 (b.getD i 0) (stream w K c N i)) := by
  unfold xorL; rw [List.getElem?_map, List.getElem?_range h]; rfl
theorem xorL_twice {w : Int → Int → Int → Int → Int} {K N : Nat → Int} {c : Int} {b : List Int} (hb : ∀ x ∈ b, B8 x) : xorL w K c N (xorL w K c N b) = b := by
  apply List.ext_getElem?
  intro i
  by_cases h : i < b.length
  · rw [xorL_get (by rw [xorL_length]; exact h), getD_get h]
    congr 1
    rw [List.getD_eq_getElem?_getD, xorL_get h]
    apply xor8_twice
    apply hb
    rw [List.getD_eq_getElem?_getD, List.getElem?_eq_getElem h]
    exact List.getElem_mem h
  · rw [List.getElem?_eq_none (by rw [xorL_length, xorL_length]; omega), List.getElem?_eq_none (by omega)]
noncomputable def lawTwiceEs : List Entry := [worksE, XorE, eqBytesE]
theorem lawTwiceEs_ok : ∀ e ∈ lawTwiceEs, EntryOk Try.prog e := esc worksE_ok (esc XorE_ok (es1 eqBytesE_ok))
def hT1 (n : Nat) (b out : List Int) : Hint := ⟨fun r k => match r, k with
  | 3, 7 => some (.eff (.tuple #[rowR 3 n, .int .i64 0]) (fun s => s ++ [byR out (.row 1)]) [])
  | 6, 7 => some (.eff (.tuple #[rowR 4 n, .int .i64 0]) (fun s => s ++ [byR b (.row 1)]) [])
  | 7, 5 => some (.read (.bool true) [4, 1])
  | _, _ => none, fun _ => none⟩
def hT0 : Hint := ⟨fun r k => match r, k with
  | 3, 7 => some (.read (.tuple #[.slice none 0 0, .int .i64 5]) [1])
  | _, _ => none, fun _ => none⟩
theorem lawTwiceR (b out : List Int) (K N : Nat → Int) (c : Int) (n : Nat) : goNH lawTwiceEs (hT1 n b out) 0 Try.f7 (argsB K c N n) [none, byR b .ro] = some (.bool true, [none, byR b .ro]) := by kernel_rfl
theorem lawTwiceP (b out : List Int) (K N : Nat → Int) (c : Int) (n : Nat) : owes lawTwiceEs (hT1 n b out) 0 Try.f7 (argsB K c N n) [none, byR b .ro] =
    (((none : Option Value) = none ∧ effI (callE XorE.ks XorE.spec (xa K c N (slR 1 n)) (s2 b K c N)) (greads XorE.ks (xa K c N (slR 1 n))) 3 = some (.tuple #[rowR 3 n, .int .i64 0], s2 b K c N ++ [byR out (.row 1)], .eff [] 3)) ∧
     ((none : Option Value) = none ∧ effI (callE XorE.ks XorE.spec (xa K c N (rowR 3 n)) (s2 b K c N ++ [byR out (.row 1)])) (greads XorE.ks (xa K c N (rowR 3 n))) 4 =
       some (.tuple #[rowR 4 n, .int .i64 0], (s2 b K c N ++ [byR out (.row 1)]) ++ [byR b (.row 1)], .eff [] 4)) ∧
     ((none : Option Value) = none ∧ effI (callE eqBytesE.ks eqBytesE.spec [rowR 4 n, slR 1 n] ((s2 b K c N ++ [byR out (.row 1)]) ++ [byR b (.row 1)])) (greads eqBytesE.ks [rowR 4 n, slR 1 n]) 5 = some (.bool true, (s2 b K c N ++ [byR out (.row 1)]) ++ [byR b (.row 1)], .load [4, 1])) ∧ True) := by kernel_rfl
theorem lawTwiceR0 (b : List Int) (K N : Nat → Int) (c : Int) (n : Nat) : goNH lawTwiceEs hT0 0 Try.f7 (argsB K c N n) [none, byR b .ro] = some (.bool true, [none, byR b .ro]) := by kernel_rfl
theorem lawTwiceP0 (b : List Int) (K N : Nat → Int) (c : Int) (n : Nat) : owes lawTwiceEs hT0 0 Try.f7 (argsB K c N n) [none, byR b .ro] =
    (((none : Option Value) = none ∧ effI (callE XorE.ks XorE.spec (xa K c N (slR 1 n)) (s2 b K c N)) (greads XorE.ks (xa K c N (slR 1 n))) 3 = some (.tuple #[.slice none 0 0, .int .i64 5], s2 b K c N, .load [1])) ∧ True) := by kernel_rfl
theorem pl1 (b : List Int) : [none, byR b .ro].all plainReg = true := by simp only [List.all_cons, List.all_nil, byR, plain_u8, plainReg, Bool.and_true, Bool.and_self]
theorem lawTwice (b : List Int) (K N : Nat → Int) (c : Int) (hc : 0 ≤ c ∧ c ≤ 4294967295) (hb : ∀ x ∈ b, B8 x) (hn : b.length ≤ 140737488351232) :
    AC Try.prog 7 (argsB K c N b.length) [none, byR b .ro] (.bool true) [none, byR b .ro] := by
  by_cases ht : tooLong b.length c = true
  · refine runNH_ok lawTwiceEs_ok Try.func7 (by kernel_rfl) ?_ (lawTwiceR0 b K N c b.length) rfl (pl1 b) rfl
    rw [lawTwiceP0]
    exact ⟨⟨rfl, owe_long (Bys.all rfl) hc (by omega) ht rfl⟩, trivial⟩
  · have ht : tooLong b.length c = false := by simpa using ht
    refine runNH_ok lawTwiceEs_ok Try.func7 (by kernel_rfl) ?_ (lawTwiceR b (xorL wordO K c N b) K N c b.length) rfl (pl1 b) rfl
    rw [lawTwiceP]
    have hl : (xorL wordO K c N b).length = b.length := xorL_length
    refine ⟨⟨rfl, owe_full (Bys.all rfl) hc (by omega) ht rfl⟩, ⟨rfl, ?_⟩, ⟨rfl, eq_self (Bys.row rfl) (Bys.all rfl) (by omega) rfl⟩, trivial⟩
    have h1 := Bys.row (st := s2 b K c N ++ [byR (xorL wordO K c N b) (.row 1)]) (i := 3) rfl
    have h2 := owe_full (w := wordO) (K := K) (N := N) (c := c) (len := 4) h1 hc (by rw [hl]; omega) (by rw [hl]; exact ht) rfl
    rw [hl, xorL_twice hb] at h2
    exact h2

/-! ChachaFrom -/
noncomputable def lawFromEs : List Entry := [worksE, brE, XorE, eqBytesE]
theorem lawFromEs_ok : ∀ e ∈ lawFromEs, EntryOk Try.prog e := esc worksE_ok (esc brE_ok (esc XorE_ok (es1 eqBytesE_ok)))
/-- n: how many bytes; m: how many blocks; 'at the end': are these all?; out, rest: what comes. -/
def hFm (n m : Nat) (c' : Int) (end_ : Bool) (out rest : List Int) : Hint := ⟨fun r k => match r, k with
  | 3, 3 => some (.pure (.int .i64 ((n / 64 : Nat) : Int)))
  | 3, 4 => some (.pure (.int .i64 ((n / 64 + 1 : Nat) : Int)))
  | 3, 5 => some (.read (.int .i64 (m : Int)) [])
  | 4, 7 => some (.eff (.tuple #[rowR 4 n, .int .i64 0]) (fun s => s ++ [byR out (.row 1)]) [])
  | 5, 4 => some (.pure (.int .i64 ((64 * m : Nat) : Int)))
  | 5, 7 => some (.pure (.bool end_))
  | 7, 6 => some (.pure (.int .u32 c'))
  | 7, 11 => some (.pure (.int .i64 ((64 * m : Nat) : Int)))
  | 7, 12 => some (.pure (.slice (some ⟨1, 64 * m, none⟩) (n - 64 * m) (n - 64 * m)))
  | 7, 13 => some (.eff (.tuple #[rowR 5 (n - 64 * m), .int .i64 0]) (fun s => s ++ [byR rest (.row 1)]) [])
  | 8, 7 => some (.pure (.bool true))
  | 8, 12 => some (.pure (.int .i64 ((64 * m : Nat) : Int)))
  | 8, 13 => some (.pure (.slice (some ⟨4, 64 * m, none⟩) (n - 64 * m) (n - 64 * m)))
  | 8, 15 => some (.read (.bool true) [4, 5])
  | _, _ => none, fun _ => none⟩
def hFm0 (n m : Nat) : Hint := ⟨fun r k => match r, k with
  | 3, 3 => some (.pure (.int .i64 ((n / 64 : Nat) : Int)))
  | 3, 4 => some (.pure (.int .i64 ((n / 64 + 1 : Nat) : Int)))
  | 3, 5 => some (.read (.int .i64 (m : Int)) [])
  | 4, 7 => some (.read (.tuple #[.slice none 0 0, .int .i64 5]) [1])
  | _, _ => none, fun _ => none⟩
def s3 (b : List Int) (K : Nat → Int) (c : Int) (N : Nat → Int) : St := [none, byR b .ro, none, some ⟨begC K c N, .rw⟩]
def argsF (K : Nat → Int) (c : Int) (N : Nat → Int) (n : Nat) (i : Int) : List Value := [.agg ⟨begC K c N⟩, slR 1 n, .int .i64 i]
def oweBr (b : List Int) (K : Nat → Int) (c : Int) (N : Nat → Int) (n m : Nat) (i : Int) : Prop :=
  aint .quo .i64 (n : Int) 64 = some (.int .i64 ((n / 64 : Nat) : Int)) ∧ aint .add .i64 ((n / 64 : Nat) : Int) 1 = some (.int .i64 ((n / 64 + 1 : Nat) : Int)) ∧
  ((none : Option Value) = none ∧ effI (callE brE.ks brE.spec [.int .i64 i, .int .i64 ((n / 64 + 1 : Nat) : Int)] (s3 b K c N)) (greads brE.ks [.int .i64 i, .int .i64 ((n / 64 + 1 : Nat) : Int)]) 4 = some (.int .i64 (m : Int), s3 b K c N, .load []))
theorem lawFromR0 (b : List Int) (K N : Nat → Int) (c i : Int) (n m : Nat) : goNH lawFromEs (hFm0 n m) 0 Try.f10 (argsF K c N n i) [none, byR b .ro, none] = some (.bool true, [none, byR b .ro, none]) := by kernel_rfl
theorem lawFromP0 (b : List Int) (K N : Nat → Int) (c i : Int) (n m : Nat) : owes lawFromEs (hFm0 n m) 0 Try.f10 (argsF K c N n i) [none, byR b .ro, none] =
    (aint .quo .i64 (n : Int) 64 = some (.int .i64 ((n / 64 : Nat) : Int)) ∧ aint .add .i64 ((n / 64 : Nat) : Int) 1 = some (.int .i64 ((n / 64 + 1 : Nat) : Int)) ∧
     ((none : Option Value) = none ∧ effI (callE brE.ks brE.spec [.int .i64 i, .int .i64 ((n / 64 + 1 : Nat) : Int)] (s3 b K c N)) (greads brE.ks [.int .i64 i, .int .i64 ((n / 64 + 1 : Nat) : Int)]) 4 = some (.int .i64 (m : Int), s3 b K c N, .load [])) ∧
     ((none : Option Value) = none ∧ effI (callE XorE.ks XorE.spec (xa K c N (slR 1 n)) (s3 b K c N)) (greads XorE.ks (xa K c N (slR 1 n))) 4 = some (.tuple #[.slice none 0 0, .int .i64 5], s3 b K c N, .load [1])) ∧ True) := by kernel_rfl
theorem lawFromR1 (b out rest : List Int) (K N : Nat → Int) (c c' i : Int) (n m : Nat) : goNH lawFromEs (hFm n m c' true out rest) 0 Try.f10 (argsF K c N n i) [none, byR b .ro, none] = some (.bool true, [none, byR b .ro, none]) := by kernel_rfl
theorem lawFromP1 (b out rest : List Int) (K N : Nat → Int) (c c' i : Int) (n m : Nat) : owes lawFromEs (hFm n m c' true out rest) 0 Try.f10 (argsF K c N n i) [none, byR b .ro, none] =
    (aint .quo .i64 (n : Int) 64 = some (.int .i64 ((n / 64 : Nat) : Int)) ∧ aint .add .i64 ((n / 64 : Nat) : Int) 1 = some (.int .i64 ((n / 64 + 1 : Nat) : Int)) ∧
     ((none : Option Value) = none ∧ effI (callE brE.ks brE.spec [.int .i64 i, .int .i64 ((n / 64 + 1 : Nat) : Int)] (s3 b K c N)) (greads brE.ks [.int .i64 i, .int .i64 ((n / 64 + 1 : Nat) : Int)]) 4 = some (.int .i64 (m : Int), s3 b K c N, .load [])) ∧
     ((none : Option Value) = none ∧ effI (callE XorE.ks XorE.spec (xa K c N (slR 1 n)) (s3 b K c N)) (greads XorE.ks (xa K c N (slR 1 n))) 4 = some (.tuple #[rowR 4 n, .int .i64 0], s3 b K c N ++ [byR out (.row 1)], .eff [] 4)) ∧
     aint .mul .i64 64 (m : Int) = some (.int .i64 ((64 * m : Nat) : Int)) ∧ aint .eql .i64 ((64 * m : Nat) : Int) (n : Int) = some (.bool true) ∧ True) := by kernel_rfl
theorem lawFromR2 (b out rest : List Int) (K N : Nat → Int) (c c' i : Int) (n m : Nat) : goNH lawFromEs (hFm n m c' false out rest) 0 Try.f10 (argsF K c N n i) [none, byR b .ro, none] = some (.bool true, [none, byR b .ro, none]) := by kernel_rfl
theorem lawFromP2 (b out rest : List Int) (K N : Nat → Int) (c c' i : Int) (n m : Nat) : owes lawFromEs (hFm n m c' false out rest) 0 Try.f10 (argsF K c N n i) [none, byR b .ro, none] =
    (aint .quo .i64 (n : Int) 64 = some (.int .i64 ((n / 64 : Nat) : Int)) ∧ aint .add .i64 ((n / 64 : Nat) : Int) 1 = some (.int .i64 ((n / 64 + 1 : Nat) : Int)) ∧
     ((none : Option Value) = none ∧ effI (callE brE.ks brE.spec [.int .i64 i, .int .i64 ((n / 64 + 1 : Nat) : Int)] (s3 b K c N)) (greads brE.ks [.int .i64 i, .int .i64 ((n / 64 + 1 : Nat) : Int)]) 4 = some (.int .i64 (m : Int), s3 b K c N, .load [])) ∧
     ((none : Option Value) = none ∧ effI (callE XorE.ks XorE.spec (xa K c N (slR 1 n)) (s3 b K c N)) (greads XorE.ks (xa K c N (slR 1 n))) 4 = some (.tuple #[rowR 4 n, .int .i64 0], s3 b K c N ++ [byR out (.row 1)], .eff [] 4)) ∧
     aint .mul .i64 64 (m : Int) = some (.int .i64 ((64 * m : Nat) : Int)) ∧ aint .eql .i64 ((64 * m : Nat) : Int) (n : Int) = some (.bool false) ∧
     aint .add .u32 c (IntKind.u32.wrap (m : Int)) = some (.int .u32 c') ∧ aint .mul .i64 64 (m : Int) = some (.int .i64 ((64 * m : Nat) : Int)) ∧
     cut 1 0 n n 1 (some (.int .i64 ((64 * m : Nat) : Int))) none none = some (.slice (some ⟨1, 64 * m, none⟩) (n - 64 * m) (n - 64 * m)) ∧
     ((none : Option Value) = none ∧ effI (callE XorE.ks XorE.spec (xa K c' N (.slice (some ⟨1, 64 * m, none⟩) (n - 64 * m) (n - 64 * m))) (s3 b K c N ++ [byR out (.row 1)])) (greads XorE.ks (xa K c' N (.slice (some ⟨1, 64 * m, none⟩) (n - 64 * m) (n - 64 * m)))) 5 =
       some (.tuple #[rowR 5 (n - 64 * m), .int .i64 0], (s3 b K c N ++ [byR out (.row 1)]) ++ [byR rest (.row 1)], .eff [] 5)) ∧
     aint .eql .i64 (n : Int) (n : Int) = some (.bool true) ∧ aint .mul .i64 64 (m : Int) = some (.int .i64 ((64 * m : Nat) : Int)) ∧
     cut 4 0 n n 1 (some (.int .i64 ((64 * m : Nat) : Int))) none none = some (.slice (some ⟨4, 64 * m, none⟩) (n - 64 * m) (n - 64 * m)) ∧
     ((none : Option Value) = none ∧ effI (callE eqBytesE.ks eqBytesE.spec [.slice (some ⟨4, 64 * m, none⟩) (n - 64 * m) (n - 64 * m), rowR 5 (n - 64 * m)] ((s3 b K c N ++ [byR out (.row 1)]) ++ [byR rest (.row 1)])) (greads eqBytesE.ks [.slice (some ⟨4, 64 * m, none⟩) (n - 64 * m) (n - 64 * m), rowR 5 (n - 64 * m)]) 6 =
       some (.bool true, (s3 b K c N ++ [byR out (.row 1)]) ++ [byR rest (.row 1)], .load [4, 5])) ∧ True) := by kernel_rfl
theorem drop_getD {b : List Int} {a i : Nat} : (b.drop a).getD i 0 = b.getD (a + i) 0 := by
  simp only [List.getD_eq_getElem?_getD, List.getElem?_drop]
theorem xorL_drop {w : Int → Int → Int → Int → Int} {K N : Nat → Int} {c : Int} {b : List Int} {m : Nat} (h : 64 * m ≤ b.length) : xorL w K (IntKind.u32.wrap (c + (m : Int))) N (b.drop (64 * m)) = (xorL w K c N b).drop (64 * m) := by
  apply List.ext_getElem?
  intro i
  by_cases hi : i < b.length - 64 * m
  · rw [List.getElem?_drop, xorL_get (by rw [List.length_drop]; exact hi), xorL_get (by omega), drop_getD]
    have e : stream w K (IntKind.u32.wrap (c + (m : Int))) N i = stream w K c N (64 * m + i) := by
      unfold stream
      have e1 : (64 * m + i) / 64 = m + i / 64 := by omega
      have e2 : (64 * m + i) % 64 = i % 64 := by omega
      have e3 : IntKind.u32.wrap (IntKind.u32.wrap (c + (m : Int)) + ((i / 64 : Nat) : Int)) = IntKind.u32.wrap (c + ((m + i / 64 : Nat) : Int)) := by simp only [IntKind.wrap_u32]; omega
      rw [e1, e2, e3]
    rw [e]
  · rw [List.getElem?_eq_none (by rw [xorL_length, List.length_drop]; omega), List.getElem?_eq_none (by rw [List.length_drop, xorL_length]; omega)]
theorem pl3 (b : List Int) : [none, byR b .ro, none].all plainReg = true := by simp only [List.all_cons, List.all_nil, byR, plain_u8, plainReg, Bool.and_true, Bool.and_self]
theorem lawFrom (b : List Int) (K N : Nat → Int) (c i : Int) (hc : 0 ≤ c ∧ c ≤ 4294967295) (hn : b.length ≤ 140737488351232) :
    AC Try.prog 10 (argsF K c N b.length i) [none, byR b .ro, none] (.bool true) [none, byR b .ro, none] := by
  obtain ⟨m, hm⟩ := Int.eq_ofNat_of_zero_le (show 0 ≤ i % ((b.length / 64 + 1 : Nat) : Int) from Int.emod_nonneg _ (by omega))
  have hlt : (m : Int) < ((b.length / 64 + 1 : Nat) : Int) := by rw [← hm]; exact Int.emod_lt_of_pos _ (by omega)
  have hle : 64 * m ≤ b.length := by omega
  have h1 : aint .quo .i64 (b.length : Int) 64 = some (.int .i64 ((b.length / 64 : Nat) : Int)) := quo_nat (d := 64) rfl (by decide) (by omega)
  have h2 : aint .add .i64 ((b.length / 64 : Nat) : Int) 1 = some (.int .i64 ((b.length / 64 + 1 : Nat) : Int)) := add_i64 (by omega) (by omega)
  have h3 : effI (callE brE.ks brE.spec [.int .i64 i, .int .i64 ((b.length / 64 + 1 : Nat) : Int)] (s3 b K c N)) (greads brE.ks [.int .i64 i, .int .i64 ((b.length / 64 + 1 : Nat) : Int)]) 4 = some (.int .i64 (m : Int), s3 b K c N, .load []) := by
    have := owe_bring (s := s3 b K c N) (i := i) (n := ((b.length / 64 + 1 : Nat) : Int)) (len := 4) (by omega) rfl
    rw [hm] at this
    exact this
  by_cases ht : tooLong b.length c = true
  · refine runNH_ok lawFromEs_ok Try.func10 (by kernel_rfl) ?_ (lawFromR0 b K N c i b.length m) rfl (pl3 b) rfl
    rw [lawFromP0]
    exact ⟨h1, h2, ⟨rfl, h3⟩, ⟨rfl, owe_long (Bys.all rfl) hc (by omega) ht rfl⟩, trivial⟩
  · have ht : tooLong b.length c = false := by simpa using ht
    have hl : (xorL wordO K c N b).length = b.length := xorL_length
    have h4 : aint .mul .i64 64 (m : Int) = some (.int .i64 ((64 * m : Nat) : Int)) := mul_i64 (by omega) (by omega)
    by_cases he : 64 * m = b.length
    · refine runNH_ok lawFromEs_ok Try.func10 (by kernel_rfl) ?_ (lawFromR1 b (xorL wordO K c N b) [] K N c 0 i b.length m) rfl (pl3 b) rfl
      rw [lawFromP1]
      exact ⟨h1, h2, ⟨rfl, h3⟩, ⟨rfl, owe_full (Bys.all rfl) hc (by omega) ht rfl⟩, h4, eql_eq (by simp; omega), trivial⟩
    · have hf : 64 * m + (b.length - 64 * m) ≤ b.length := by omega
      have htk : ((b.drop (64 * m)).take (b.length - 64 * m)) = b.drop (64 * m) := List.take_of_length_le (by simp)
      have hdl : (b.drop (64 * m)).length = b.length - 64 * m := by simp
      have hcm : 0 ≤ c + (m : Int) ∧ c + (m : Int) ≤ 4294967295 := by
        simp only [tooLong, decide_eq_false_iff_not] at ht
        omega
      have hwr : IntKind.u32.wrap (c + (m : Int)) = c + (m : Int) := u32_in _ hcm
      refine runNH_ok lawFromEs_ok Try.func10 (by kernel_rfl) ?_ (lawFromR2 b (xorL wordO K c N b) ((xorL wordO K c N b).drop (64 * m)) K N c (IntKind.u32.wrap (c + (m : Int))) i b.length m) rfl (pl3 b) rfl
      rw [lawFromP2]
      refine ⟨h1, h2, ⟨rfl, h3⟩, ⟨rfl, owe_full (Bys.all rfl) hc (by omega) ht rfl⟩, h4, eql_eq (by simp; omega), add_u32 (by simp only [IntKind.wrap_u32]; omega), h4, cut_from hle, ⟨rfl, ?_⟩, eql_eq (by simp), h4, cut_from hle, ⟨rfl, ?_⟩, trivial⟩
      · have hb := Bys.part (st := s3 b K c N ++ [byR (xorL wordO K c N b) (.row 1)]) (i := 1) (off := 64 * m) (n := b.length - 64 * m) (c := b.length - 64 * m) rfl hf (Nat.le_refl _)
        rw [htk] at hb
        have h5 := owe_full (w := wordO) (K := K) (N := N) (c := IntKind.u32.wrap (c + (m : Int))) (len := 5) hb (by omega) (by rw [hdl]; omega) (by
          rw [hdl, hwr]
          simp only [tooLong, decide_eq_false_iff_not] at ht ⊢
          omega) rfl
        rw [xorL_drop hle, hdl] at h5
        exact h5
      · have hx := Bys.part (st := (s3 b K c N ++ [byR (xorL wordO K c N b) (.row 1)]) ++ [byR ((xorL wordO K c N b).drop (64 * m)) (.row 1)]) (i := 4) (off := 64 * m) (n := b.length - 64 * m) (c := b.length - 64 * m) rfl (by rw [hl]; omega) (Nat.le_refl _)
        have htk2 : (((xorL wordO K c N b).drop (64 * m)).take (b.length - 64 * m)) = (xorL wordO K c N b).drop (64 * m) := List.take_of_length_le (by simp [hl])
        have hdl2 : ((xorL wordO K c N b).drop (64 * m)).length = b.length - 64 * m := by simp [hl]
        rw [htk2] at hx
        have hy := Bys.row (st := (s3 b K c N ++ [byR (xorL wordO K c N b) (.row 1)]) ++ [byR ((xorL wordO K c N b).drop (64 * m)) (.row 1)]) (i := 5) rfl
        rw [hdl2] at hy
        exact eq_self hx hy (by rw [hdl2]; omega) rfl
end Go.Proofs.Ytgifhfoehmalcaa.Ch
