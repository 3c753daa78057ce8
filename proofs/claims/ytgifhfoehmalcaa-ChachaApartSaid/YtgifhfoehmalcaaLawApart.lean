/- The law ChachaApart: the machine's run of it, of all bytes. Without conditions. -/
import Derived.Test.YtgifhfoehmalcaaLawTwice
namespace Go.Proofs.Ytgifhfoehmalcaa.Ch
open Am Run IntWalk Byt

def sA (a b : List Int) (K : Nat → Int) (c : Int) (N : Nat → Int) (x y : List Int) : St := [none, byR a .ro, byR b .ro, some ⟨begC K c N, .rw⟩, byR x (.row 1), byR y (.row 1)]
noncomputable def cA : Code := loopOf 9 (body Try.f9)
def tA (p q m i : Nat) : List Value := slots 81 [(1, slR 1 p), (2, slR 2 q), (8, rowR 4 m), (10, rowR 5 m), (12, .int .i64 i)]
def hA (i : Nat) (x y u v : Int) : Hint := ⟨fun r k => match r, k with
  | 9, 3 => some (.pure (.bool true))
  | 11, 2 => some (.pure (.pointer (some ⟨4, i, none⟩)))
  | 11, 3 => some (.load (.int .u8 x) 4)
  | 11, 6 => some (.pure (.pointer (some ⟨5, i, none⟩)))
  | 11, 7 => some (.load (.int .u8 y) 5)
  | 11, 11 => some (.pure (.pointer (some ⟨1, i, none⟩)))
  | 11, 12 => some (.load (.int .u8 u) 1)
  | 11, 15 => some (.pure (.pointer (some ⟨2, i, none⟩)))
  | 11, 16 => some (.load (.int .u8 v) 2)
  | 11, 18 => some (.pure (.bool false))
  | 10, 1 => some (.pure (.int .i64 ((i + 1 : Nat) : Int)))
  | _, _ => none, fun _ => none⟩
def hA0 : Hint := ⟨fun r k => match r, k with
  | 9, 3 => some (.pure (.bool false))
  | _, _ => none, fun _ => none⟩
theorem stepA (a b : List Int) (K N : Nat → Int) (c x y u v : Int) (p q m i : Nat) (o o' : List Int) : stepV [] (hA i x y u v) 0 cA (List.range 6) [] [1, 2, 8, 10, 12] (tA p q m i) (sA a b K c N o o') = some (.normal, tA p q m (i + 1), sA a b K c N o o') := by kernel_rfl
theorem stepAP (a b : List Int) (K N : Nat → Int) (c x y u v : Int) (p q m i : Nat) (o o' : List Int) : stepP [] (hA i x y u v) 0 cA (tA p q m i) (sA a b K c N o o') =
    (aint .lss .i64 (i : Int) (m : Int) = some (.bool true) ∧ idxAt 4 0 1 m (i : Int) = some (.pointer (some ⟨4, i, none⟩)) ∧ cellAt (sA a b K c N o o') 4 i = some (.int .u8 x, 4) ∧
     idxAt 5 0 1 m (i : Int) = some (.pointer (some ⟨5, i, none⟩)) ∧ cellAt (sA a b K c N o o') 5 i = some (.int .u8 y, 5) ∧
     idxAt 1 0 1 p (i : Int) = some (.pointer (some ⟨1, i, none⟩)) ∧ cellAt (sA a b K c N o o') 1 i = some (.int .u8 u, 1) ∧
     idxAt 2 0 1 q (i : Int) = some (.pointer (some ⟨2, i, none⟩)) ∧ cellAt (sA a b K c N o o') 2 i = some (.int .u8 v, 2) ∧
     aint .neq .u8 (xor8 x y) (xor8 u v) = some (.bool false) ∧ aint .add .i64 (i : Int) 1 = some (.int .i64 ((i + 1 : Nat) : Int)) ∧ True) := by kernel_rfl
theorem stopA (a b : List Int) (K N : Nat → Int) (c : Int) (p q m : Nat) (o o' : List Int) : stepV [] hA0 0 cA (List.range 6) [] [] (tA p q m m) (sA a b K c N o o') = some (.exit 0, slots 81 [], sA a b K c N o o') := by kernel_rfl
theorem stopAP (a b : List Int) (K N : Nat → Int) (c : Int) (p q m : Nat) (o o' : List Int) : stepP [] hA0 0 cA (tA p q m m) (sA a b K c N o o') = (aint .lss .i64 (m : Int) (m : Int) = some (.bool false) ∧ True) := by kernel_rfl
theorem plA (a b : List Int) (K N : Nat → Int) (c : Int) (o o' : List Int) : plainBut [] 0 (sA a b K c N o o') = true := by
  have h1 : plainReg none = true := rfl
  have h2 : plainReg (some ⟨begC K c N, .rw⟩) = true := rfl
  simp only [sA, plainBut, byR, plainReg_u8, h1, h2, Bool.or_true, Bool.and_true]
theorem xor8_apart (u v s : Int) : xor8 (xor8 u s) (xor8 v s) = xor8 u v := by
  have e : ∀ x : BitVec 8, BitVec.ofInt 8 (IntKind.u8.wrap (x.toNat : Int)) = x := by
    intro x
    have := x.isLt
    rw [IntKind.wrap_u8, show ((x.toNat : Int) % 256) = (x.toNat : Int) from by omega, BitVec.ofInt_natCast, BitVec.ofNat_toNat, BitVec.setWidth_eq]
  unfold xor8
  rw [e, e, BitVec.xor_assoc, BitVec.xor_comm (BitVec.ofInt 8 v), ← BitVec.xor_assoc (BitVec.ofInt 8 s), BitVec.xor_self, BitVec.zero_xor]
theorem take_getD {b : List Int} {m i : Nat} (h : i < m) : (b.take m).getD i 0 = b.getD i 0 := by
  simp only [List.getD_eq_getElem?_getD, List.getElem?_take, if_pos h]
theorem loopA {a b : List Int} (K N : Nat → Int) (c : Int) {m : Nat} (hm : m ≤ 2 ^ 60) (ha : m ≤ a.length) (hb : m ≤ b.length) :
    RunsP (.loop cA) (tA a.length b.length m 0) (sA a b K c N (xorL wordO K c N (a.take m)) (xorL wordO K c N (b.take m))) (.exit 0) (slots 81 []) (sA a b K c N (xorL wordO K c N (a.take m)) (xorL wordO K c N (b.take m))) := by
  refine Runs.count m (tA a.length b.length m) (fun _ => sA a b K c N (xorL wordO K c N (a.take m)) (xorL wordO K c N (b.take m))) (fun i hi => ?_) ?_ (by simp)
  · have hx : (xorL wordO K c N (a.take m))[i]? = some (xor8 (a.getD i 0) (stream wordO K c N i)) := by rw [xorL_get (by simp; omega), take_getD hi]
    have hy : (xorL wordO K c N (b.take m))[i]? = some (xor8 (b.getD i 0) (stream wordO K c N i)) := by rw [xorL_get (by simp; omega), take_getD hi]
    refine step_ok es0 ?_ (stepA a b K N c (xor8 (a.getD i 0) (stream wordO K c N i)) (xor8 (b.getD i 0) (stream wordO K c N i)) (a.getD i 0) (b.getD i 0) a.length b.length m i _ _) (plA _ _ _ _ _ _ _)
    rw [stepAP]
    exact ⟨lss_eq (by simp; omega), idx_ok0 hi, cell_u8 rfl hx, idx_ok0 hi, cell_u8 rfl hy, idx_ok0 (by omega), cell_u8 rfl (getD_get (by omega)), idx_ok0 (by omega), cell_u8 rfl (getD_get (by omega)), neq_eq (by rw [xor8_apart]; simp), add_i64 (by omega) (by omega), trivial⟩
  · refine step_ok es0 ?_ (stopA a b K N c _ _ m _ _) (plA _ _ _ _ _ _ _)
    rw [stopAP]
    exact ⟨lss_eq (by simp), trivial⟩

noncomputable def lawApartEs : List Entry := [worksE, XorE]
theorem lawApartEs_ok : ∀ e ∈ lawApartEs, EntryOk Try.prog e := esc worksE_ok (es1 XorE_ok)
def hAw (a b : List Int) (p q m : Nat) (K : Nat → Int) (c : Int) (N : Nat → Int) (o o' : List Int) : Hint := ⟨fun r k => match r, k with
  | 3, 4 => some (.pure (.int .i64 (m : Int)))
  | 4, 8 => some (.pure (.slice (some ⟨1, 0, none⟩) m p))
  | 4, 9 => some (.eff (.tuple #[rowR 4 m, .int .i64 0]) (fun s => s ++ [byR o (.row 1)]) [])
  | 5, 8 => some (.pure (.slice (some ⟨2, 0, none⟩) m q))
  | 5, 9 => some (.eff (.tuple #[rowR 5 m, .int .i64 0]) (fun s => s ++ [byR o' (.row 1)]) [])
  | 6, 8 => some (.pure (.bool false))
  | _, _ => none, fun r => if r = 9 then some ([1, 2, 8, 10, 12], fun _ _ => some (.exit 0, slots 81 [], sA a b K c N o o')) else none⟩
def hAw0 (p q m : Nat) : Hint := ⟨fun r k => match r, k with
  | 3, 4 => some (.pure (.int .i64 (m : Int)))
  | 4, 8 => some (.pure (.slice (some ⟨1, 0, none⟩) m p))
  | 4, 9 => some (.read (.tuple #[.slice none 0 0, .int .i64 5]) [1])
  | 5, 8 => some (.pure (.slice (some ⟨2, 0, none⟩) m q))
  | 5, 9 => some (.read (.tuple #[.slice none 0 0, .int .i64 5]) [2])
  | _, _ => none, fun _ => none⟩
def argsA (K : Nat → Int) (c : Int) (N : Nat → Int) (p q : Nat) : List Value := [.agg ⟨begC K c N⟩, slR 1 p, slR 2 q]
def s3a (a b : List Int) (K : Nat → Int) (c : Int) (N : Nat → Int) : St := [none, byR a .ro, byR b .ro, some ⟨begC K c N, .rw⟩]
theorem lawApartR (a b o o' : List Int) (K N : Nat → Int) (c : Int) (p q m : Nat) : goNH lawApartEs (hAw a b p q m K c N o o') 0 Try.f9 (argsA K c N p q) [none, byR a .ro, byR b .ro] = some (.bool true, [none, byR a .ro, byR b .ro]) := by kernel_rfl
theorem lawApartP (a b o o' : List Int) (K N : Nat → Int) (c : Int) (p q m : Nat) : owes lawApartEs (hAw a b p q m K c N o o') 0 Try.f9 (argsA K c N p q) [none, byR a .ro, byR b .ro] =
    (aminmax false [.int .i64 (p : Int), .int .i64 (q : Int)] = some (.int .i64 (m : Int)) ∧ cut 1 0 p p 1 none (some (.int .i64 (m : Int))) none = some (.slice (some ⟨1, 0, none⟩) m p) ∧
     ((none : Option Value) = none ∧ effI (callE XorE.ks XorE.spec (xa K c N (.slice (some ⟨1, 0, none⟩) m p)) (s3a a b K c N)) (greads XorE.ks (xa K c N (.slice (some ⟨1, 0, none⟩) m p))) 4 = some (.tuple #[rowR 4 m, .int .i64 0], s3a a b K c N ++ [byR o (.row 1)], .eff [] 4)) ∧
     cut 2 0 q q 1 none (some (.int .i64 (m : Int))) none = some (.slice (some ⟨2, 0, none⟩) m q) ∧
     ((none : Option Value) = none ∧ effI (callE XorE.ks XorE.spec (xa K c N (.slice (some ⟨2, 0, none⟩) m q)) (s3a a b K c N ++ [byR o (.row 1)])) (greads XorE.ks (xa K c N (.slice (some ⟨2, 0, none⟩) m q))) 5 = some (.tuple #[rowR 5 m, .int .i64 0], (s3a a b K c N ++ [byR o (.row 1)]) ++ [byR o' (.row 1)], .eff [] 5)) ∧
     aint .neq .i64 (m : Int) (m : Int) = some (.bool false) ∧ RunsP (.loop cA) (tA p q m 0) (sA a b K c N o o') (.exit 0) (slots 81 []) (sA a b K c N o o') ∧ True) := by kernel_rfl
theorem lawApartR0 (a b : List Int) (K N : Nat → Int) (c : Int) (p q m : Nat) : goNH lawApartEs (hAw0 p q m) 2 Try.f9 (argsA K c N p q) [none, byR a .ro, byR b .ro] = some (.bool true, [none, byR a .ro, byR b .ro]) := by kernel_rfl
theorem lawApartP0 (a b : List Int) (K N : Nat → Int) (c : Int) (p q m : Nat) : owes lawApartEs (hAw0 p q m) 2 Try.f9 (argsA K c N p q) [none, byR a .ro, byR b .ro] =
    (aminmax false [.int .i64 (p : Int), .int .i64 (q : Int)] = some (.int .i64 (m : Int)) ∧ cut 1 0 p p 1 none (some (.int .i64 (m : Int))) none = some (.slice (some ⟨1, 0, none⟩) m p) ∧
     ((none : Option Value) = none ∧ effI (callE XorE.ks XorE.spec (xa K c N (.slice (some ⟨1, 0, none⟩) m p)) (s3a a b K c N)) (greads XorE.ks (xa K c N (.slice (some ⟨1, 0, none⟩) m p))) 4 = some (.tuple #[.slice none 0 0, .int .i64 5], s3a a b K c N, .load [1])) ∧
     cut 2 0 q q 1 none (some (.int .i64 (m : Int))) none = some (.slice (some ⟨2, 0, none⟩) m q) ∧
     ((none : Option Value) = none ∧ effI (callE XorE.ks XorE.spec (xa K c N (.slice (some ⟨2, 0, none⟩) m q)) (s3a a b K c N)) (greads XorE.ks (xa K c N (.slice (some ⟨2, 0, none⟩) m q))) 4 = some (.tuple #[.slice none 0 0, .int .i64 5], s3a a b K c N, .load [2])) ∧ True) := by kernel_rfl
theorem min_nat {p q m : Nat} (h : m = min p q) : aminmax false [.int .i64 (p : Int), .int .i64 (q : Int)] = some (.int .i64 (m : Int)) := by
  simp only [aminmax, if_true, Bool.false_eq_true, if_false]
  congr 2
  split <;> omega
theorem lawApart (a b : List Int) (K N : Nat → Int) (c : Int) (hc : 0 ≤ c ∧ c ≤ 4294967295) (hn : a.length ≤ 140737488351232) (hn' : b.length ≤ 140737488351232) :
    AC Try.prog 9 (argsA K c N a.length b.length) [none, byR a .ro, byR b .ro] (.bool true) [none, byR a .ro, byR b .ro] := by
  have pl : [none, byR a .ro, byR b .ro].all plainReg = true := by simp only [List.all_cons, List.all_nil, byR, plain_u8, plainReg, Bool.and_true, Bool.and_self]
  obtain ⟨m, hm⟩ : ∃ m, m = min a.length b.length := ⟨_, rfl⟩
  have ha : m ≤ a.length := by omega
  have hb : m ≤ b.length := by omega
  have hla : (a.take m).length = m := by simp; omega
  have hlb : (b.take m).length = m := by simp; omega
  by_cases ht : tooLong m c = true
  · refine runNH_ok lawApartEs_ok Try.func9 (by kernel_rfl) ?_ (lawApartR0 a b K N c a.length b.length m) rfl pl rfl
    rw [lawApartP0]
    have h1 := Bys.part (st := s3a a b K c N) (i := 1) (off := 0) (n := m) (c := a.length) rfl (by omega) ha
    have h2 := Bys.part (st := s3a a b K c N) (i := 2) (off := 0) (n := m) (c := b.length) rfl (by omega) hb
    rw [List.drop_zero] at h1 h2
    exact ⟨min_nat hm, cut_upto ha, ⟨rfl, owe_long h1 hc (by rw [hla]; omega) (by rw [hla]; exact ht) rfl⟩, cut_upto hb, ⟨rfl, owe_long h2 hc (by rw [hlb]; omega) (by rw [hlb]; exact ht) rfl⟩, trivial⟩
  · have ht : tooLong m c = false := by simpa using ht
    refine runNH_ok lawApartEs_ok Try.func9 (by kernel_rfl) ?_ (lawApartR a b (xorL wordO K c N (a.take m)) (xorL wordO K c N (b.take m)) K N c a.length b.length m) rfl pl rfl
    rw [lawApartP]
    have h1 := Bys.part (st := s3a a b K c N) (i := 1) (off := 0) (n := m) (c := a.length) rfl (by omega) ha
    have h2 := Bys.part (st := s3a a b K c N ++ [byR (xorL wordO K c N (a.take m)) (.row 1)]) (i := 2) (off := 0) (n := m) (c := b.length) rfl (by omega) hb
    rw [List.drop_zero] at h1 h2
    have k1 := owe_full (w := wordO) (K := K) (N := N) (c := c) (len := 4) h1 hc (by rw [hla]; omega) (by rw [hla]; exact ht) rfl
    have k2 := owe_full (w := wordO) (K := K) (N := N) (c := c) (len := 5) h2 hc (by rw [hlb]; omega) (by rw [hlb]; exact ht) rfl
    rw [hla] at k1
    rw [hlb] at k2
    exact ⟨min_nat hm, cut_upto ha, ⟨rfl, k1⟩, cut_upto hb, ⟨rfl, k2⟩, neq_eq (by simp), loopA K N c (by omega) ha hb, trivial⟩
end Go.Proofs.Ytgifhfoehmalcaa.Ch
