/- The document's Xor of chacha, 2: its contract: without conditions. -/
import Derived.Test.YtgifhfoehmalcaaChR
namespace Go.Proofs.Ytgifhfoehmalcaa.Ch
open Am Run IntWalk

theorem quo_64 {a j : Nat} (h : a / 64 = j) (ha : a ≤ 2 ^ 60) : aint .quo .i64 (a : Int) 64 = some (.int .i64 (j : Int)) := by
  simp only [aint]
  rw [if_neg (by decide)]
  have : ((a : Nat) : Int).tdiv 64 = (j : Int) := by
    rw [Int.tdiv_eq_ediv_of_nonneg (by omega)]; omega
  rw [this, i64_in _ (by omega)]
theorem roundRX {b : List Int} (K N : Nat → Int) (c : Int) (hn : b.length ≤ 2 ^ 47) {k : Nat} (hk : k < (b.length + 63) / 64) :
    RunsP rX (trX b.length c (min (64 * k) b.length) (64 * k)) (sX b K N (firsts (xorAt wordA K c N b) (min (64 * k) b.length))) .normal
      (trX b.length c (min (64 * (k + 1)) b.length) (64 * (k + 1))) (sX b K N (firsts (xorAt wordA K c N b) (min (64 * (k + 1)) b.length))) := by
  have hlt : 64 * k < b.length := by omega
  obtain ⟨m, hm, hmin⟩ : ∃ m, (m = 64 ∨ 64 * k + m = b.length ∧ m ≤ 64) ∧ 64 * k + m = min (64 * (k + 1)) b.length := by
    by_cases h : 64 * k + 64 ≤ b.length
    · exact ⟨64, .inl rfl, by omega⟩
    · exact ⟨b.length - 64 * k, .inr ⟨by omega, by omega⟩, by omega⟩
  have hle : 64 * k + m ≤ b.length := by omega
  have h64 : m ≤ 64 := by rcases hm with h | h <;> omega
  rw [show min (64 * k) b.length = 64 * k from by omega, ← hmin]
  refine step_ok rxEs_ok (h := hrX b.length (64 * k) m k c (IntKind.u32.wrap (c + (k : Int))) b K N (firsts (xorAt wordA K c N b) (64 * k + m))) ?_
    (stepRX b (firsts (xorAt wordA K c N b) (64 * k)) (firsts (xorAt wordA K c N b) (64 * k + m)) K N b.length (64 * k) m k c (IntKind.u32.wrap (c + (k : Int)))) (plX _ _ _ _)
  rw [stepRXP]
  refine ⟨lss_eq (by simp; omega), quo_64 (by omega) (by omega), add_u32 ?_, ?_, add_i64 (by omega) (by omega), trivial⟩
  · simp only [IntKind.wrap_u32]; omega
  · refine loopRI K N c _ hn hm hle (blockOf_length _ _ _ _) fun i hi => ?_
    unfold xorAt stream
    rw [show (64 * k + i) / 64 = k from by omega, show (64 * k + i) % 64 = i from by omega]
theorem loopRX {b : List Int} (K N : Nat → Int) (c : Int) (hn : b.length ≤ 2 ^ 47) :
    RunsP (.loop rX) (trX b.length c 0 0) (sX b K N []) (.exit 0) (slots 63 [(10, rowR 6 b.length)]) (sX b K N ((List.range b.length).map (xorAt wordA K c N b))) := by
  have h := Runs.count ((b.length + 63) / 64) (fun k => trX b.length c (min (64 * k) b.length) (64 * k)) (fun k => sX b K N (firsts (xorAt wordA K c N b) (min (64 * k) b.length)))
    (e := .exit 0) (te := slots 63 [(10, rowR 6 b.length)]) (se := sX b K N (firsts (xorAt wordA K c N b) b.length)) (fun k hk => roundRX K N c hn hk)
    (by
      rw [show min (64 * ((b.length + 63) / 64)) b.length = b.length from by omega]
      refine step_ok rxEs_ok ?_ (stopRX b _ K N _ _ _ _) (plX _ _ _ _)
      rw [stopRXP]
      exact ⟨lss_eq (by simp; omega), trivial⟩) (by simp)
  rw [show min (64 * 0) b.length = 0 from by omega] at h
  exact h

/-- The whole of it. -/
def hFr (n : Nat) (c : Int) (t : Bool) (b : List Int) (K N : Nat → Int) (out : List Int) : Hint := ⟨fun r k => match r, k with
  | 1, 2 => some (.pure (.int .i64 ((n + 63 : Nat) : Int)))
  | 1, 3 => some (.pure (.int .i64 (((n + 63) / 64 : Nat) : Int)))
  | 1, 5 => some (.pure (.int .i64 c))
  | 1, 6 => some (.pure (.int .i64 (4294967296 - c)))
  | 1, 7 => some (.pure (.bool t))
  | _, _ => none, fun r => if r = 5 then some (liverX, fun _ _ => some (.exit 0, slots 63 [(10, rowR 6 n)], sX b K N out)) else none⟩
theorem longRr (b : List Int) (K N : Nat → Int) (c : Int) (n : Nat) : goNH rxEs (hFr n c true b K N []) 0 Try.f18 (argsX K N c n) [none, none, none, byR b .ro] =
    some (.tuple #[.slice none 0 0, .int .i64 5], [none, none, none, byR b .ro]) := by kernel_rfl
theorem longPr (b : List Int) (K N : Nat → Int) (c : Int) (n : Nat) : owes rxEs (hFr n c true b K N []) 0 Try.f18 (argsX K N c n) [none, none, none, byR b .ro] =
    (aint .add .i64 (n : Int) 63 = some (.int .i64 ((n + 63 : Nat) : Int)) ∧ aint .quo .i64 ((n + 63 : Nat) : Int) 64 = some (.int .i64 (((n + 63) / 64 : Nat) : Int)) ∧
     some (Value.int .i64 (IntKind.i64.wrap c)) = some (.int .i64 c) ∧ aint .sub .i64 4294967296 c = some (.int .i64 (4294967296 - c)) ∧ aint .gtr .i64 (((n + 63) / 64 : Nat) : Int) (4294967296 - c) = some (.bool true) ∧ True) := by kernel_rfl
theorem fullRr (b out : List Int) (K N : Nat → Int) (c : Int) (n : Nat) : goFH rxEs (hFr n c false b K N out) 0 Try.f18 (argsX K N c n) [none, none, none, byR b .ro] =
    some (.tuple #[rowR 6 n, .int .i64 0], sX b K N out) := by kernel_rfl
theorem fullPr (b out : List Int) (K N : Nat → Int) (c : Int) (n : Nat) : owes rxEs (hFr n c false b K N out) 0 Try.f18 (argsX K N c n) [none, none, none, byR b .ro] =
    (aint .add .i64 (n : Int) 63 = some (.int .i64 ((n + 63 : Nat) : Int)) ∧ aint .quo .i64 ((n + 63 : Nat) : Int) 64 = some (.int .i64 (((n + 63) / 64 : Nat) : Int)) ∧
     some (Value.int .i64 (IntKind.i64.wrap c)) = some (.int .i64 c) ∧ aint .sub .i64 4294967296 c = some (.int .i64 (4294967296 - c)) ∧ aint .gtr .i64 (((n + 63) / 64 : Nat) : Int) (4294967296 - c) = some (.bool false) ∧
     RunsP (.loop rX) (slots 63 [(1, .int .u32 c), (3, slR 3 n), (4, pR 4), (6, pR 5), (10, .slice none 0 0), (11, .int .i64 0)]) [none, none, none, byR b .ro, some ⟨u8N 32 K, .rw⟩, some ⟨u8N 12 N, .rw⟩] (.exit 0) (slots 63 [(10, rowR 6 n)]) (sX b K N out) ∧ True) := by kernel_rfl
theorem lenOkr {n : Nat} {c : Int} {t : Bool} (hc : 0 ≤ c ∧ c ≤ 4294967295) (hn : n ≤ 2 ^ 47) (ht : tooLong n c = t) : aint .add .i64 (n : Int) 63 = some (.int .i64 ((n + 63 : Nat) : Int)) ∧ aint .quo .i64 ((n + 63 : Nat) : Int) 64 = some (.int .i64 (((n + 63) / 64 : Nat) : Int)) ∧
     some (Value.int .i64 (IntKind.i64.wrap c)) = some (.int .i64 c) ∧ aint .sub .i64 4294967296 c = some (.int .i64 (4294967296 - c)) ∧ aint .gtr .i64 (((n + 63) / 64 : Nat) : Int) (4294967296 - c) = some (.bool t) := by
  refine ⟨add_i64 (by omega) (by omega), quo_64 rfl (by omega), by rw [i64_in c (by omega)], sub_i64 rfl (by omega), ?_⟩
  rw [← ht]
  simp only [aint, tooLong]
  congr 3
  simp only [eq_iff_iff]
  omega
theorem refXor_long {b : List Int} (K N : Nat → Int) {c : Int} (hc : 0 ≤ c ∧ c ≤ 4294967295) (hn : b.length ≤ 2 ^ 47) (ht : tooLong b.length c = true) :
    AC Try.prog 18 (argsX K N c b.length) [none, none, none, byR b .ro] (.tuple #[.slice none 0 0, .int .i64 5]) [none, none, none, byR b .ro] := by
  refine runNH_ok rxEs_ok Try.func18 (by kernel_rfl) ?_ (longRr b K N c b.length) rfl ?_ rfl
  · rw [longPr]
    obtain ⟨h1, h2, h3, h4, h5⟩ := lenOkr hc hn ht
    exact ⟨h1, h2, h3, h4, h5, trivial⟩
  · simp only [List.all_cons, List.all_nil, byR, plain_u8, plainReg, Bool.and_true, Bool.and_self]
theorem refXor_full {b : List Int} (K N : Nat → Int) {c : Int} (hc : 0 ≤ c ∧ c ≤ 4294967295) (hn : b.length ≤ 2 ^ 47) (ht : tooLong b.length c = false) :
    AC Try.prog 18 (argsX K N c b.length) [none, none, none, byR b .ro] (.tuple #[rowR 4 b.length, .int .i64 0]) [none, none, none, byR b .ro, byR ((List.range b.length).map (xorAt wordA K c N b)) (.row 1)] := by
  have h := runH_ok rxEs_ok Try.func18 (by kernel_rfl) (hint := hFr b.length c false b K N ((List.range b.length).map (xorAt wordA K c N b))) (n := 0) (a := argsX K N c b.length) (s := [none, none, none, byR b .ro])
    (by
      rw [fullPr]
      obtain ⟨h1, h2, h3, h4, h5⟩ := lenOkr hc hn ht
      refine ⟨h1, h2, h3, h4, h5, ?_, trivial⟩
      exact Runs.nilRow (j := 10) (z := 1) rfl (by decide) (loopRX K N c hn)) (fullRr b _ K N c b.length)
  refine view_plain h [0, 1, 2, 3, 6] rfl rfl rfl ?_ rfl
  simp only [List.all_cons, List.all_nil, byR, plain_u8, plainReg, Bool.and_true, Bool.and_self]
noncomputable def refXorE : Entry := ⟨18, [.val, .val, .val, .sl false], xorSpec wordA⟩
theorem refXorE_ok : EntryOk Try.prog refXorE := by
  refine ⟨fun a s r s' h => ?_, body_of Try.func18 (by kernel_rfl) (by kernel_rfl)⟩
  simp only [refXorE] at h
  unfold xorSpec at h
  split at h
  · split at h
    · rename_i K N b hK hN hb
      split at h
      · rename_i hc
        obtain ⟨h1, h2, rfl, rfl, h5, h6⟩ := hc
        rw [u8s_spec hK, u8s_spec hN, list_range h1, list_range h2, u8s_spec hb]
        split at h
        · rename_i ht
          cases h
          exact refXor_long _ _ h6 h5 ht
        · rename_i ht
          cases h
          exact refXor_full _ _ h6 h5 (by simpa using ht)
      · cases h
    · cases h
  · cases h
end Go.Proofs.Ytgifhfoehmalcaa.Ch
