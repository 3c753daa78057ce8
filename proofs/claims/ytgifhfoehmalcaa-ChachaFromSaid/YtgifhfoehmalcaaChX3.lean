/- Xor of chacha, 3: its contract: without conditions. -/
import Derived.Test.YtgifhfoehmalcaaChX2
namespace Go.Proofs.Ytgifhfoehmalcaa.Ch
open Am Run IntWalk

/-- The stream of blocks, byte by byte. -/
def stream (w : Int → Int → Int → Int → Int) (K : Nat → Int) (c : Int) (N : Nat → Int) (i : Nat) : Int := (blockOf w K (IntKind.u32.wrap (c + ((i / 64 : Nat) : Int))) N).getD (i % 64) 0
def xorAt (w : Int → Int → Int → Int → Int) (K : Nat → Int) (c : Int) (N : Nat → Int) (b : List Int) (i : Nat) : Int := xor8 (b.getD i 0) (stream w K c N i)
theorem blockOf_length (w : Int → Int → Int → Int → Int) (K : Nat → Int) (c : Int) (N : Nat → Int) : (blockOf w K c N).length = 64 := by
  simp [blockOf, outB, V16.list, bytes4]
theorem add_u32 {a b c : Int} (h : IntKind.u32.wrap (a + b) = c) : aint .add .u32 a b = some (.int .u32 c) := by simp [aint, h]
theorem wrap_succ (c : Int) (k : Nat) : IntKind.u32.wrap (IntKind.u32.wrap (c + (k : Int)) + 1) = IntKind.u32.wrap (c + ((k + 1 : Nat) : Int)) := by
  simp only [IntKind.wrap_u32]; omega
theorem upTo_next (v : Nat → Int) {n k m : Nat} (hm : m = 64 ∨ 64 * k + m = n ∧ m ≤ 64) : upTo v n (64 * k + m) = upTo v n (64 * (k + 1)) := by
  rcases hm with rfl | ⟨h, h2⟩
  · rfl
  · rw [upTo_all v (by omega), upTo_all v (by omega)]
theorem cut_piece {i n a m : Nat} (h : a + m ≤ n) : cut i 0 n n 1 (some (.int .i64 (a : Int))) (some (.int .i64 ((a + m : Nat) : Int))) none = some (.slice (some ⟨i, a, none⟩) m (n - a)) := by
  unfold cut
  simp only [Option.isSome_none, Bool.false_and, Bool.false_eq_true, if_false, bound?, Nat.le_refl, if_true]
  rw [if_pos ⟨by omega, by omega⟩]
  simp only
  rw [if_pos ⟨by omega, by omega⟩]
  simp
  omega
theorem roundX {b : List Int} (K N : Nat → Int) (c : Int) (hn : b.length ≤ 2 ^ 47) {k : Nat} (hk : k < (b.length + 63) / 64) :
    RunsP cX (tX b.length (IntKind.u32.wrap (c + (k : Int))) (64 * k)) (sX b K N (upTo (xorAt wordO K c N b) b.length (64 * k))) .normal
      (tX b.length (IntKind.u32.wrap (c + ((k + 1 : Nat) : Int))) (64 * (k + 1))) (sX b K N (upTo (xorAt wordO K c N b) b.length (64 * (k + 1)))) := by
  have hlt : 64 * k < b.length := by omega
  obtain ⟨m, hm, hmin⟩ : ∃ m, (m = 64 ∨ 64 * k + m = b.length ∧ m ≤ 64) ∧ 64 * k + m = min (64 * k + 64) b.length := by
    by_cases h : 64 * k + 64 ≤ b.length
    · exact ⟨64, .inl rfl, by omega⟩
    · exact ⟨b.length - 64 * k, .inr ⟨by omega, by omega⟩, by omega⟩
  have hle : 64 * k + m ≤ b.length := by omega
  have h64 : m ≤ 64 := by rcases hm with h | h <;> omega
  have hstep := step_ok xorEs_ok (h := hX b.length (64 * k) m (IntKind.u32.wrap (c + ((k + 1 : Nat) : Int))) b K N (IntKind.u32.wrap (c + (k : Int))) (upTo (xorAt wordO K c N b) b.length (64 * (k + 1))))
    (by
      rw [stepXP]
      refine ⟨lss_eq (by simp; omega), add_i64 (by omega) (by omega), ?_, cut_piece hle, ?_, add_u32 (wrap_succ c k), add_i64 (by omega) (by omega), trivial⟩
      · simp only [aminmax, if_true, Bool.false_eq_true, if_false]
        congr 2
        split <;> omega
      · rw [← upTo_next _ hm]
        refine loopI K N _ _ (by omega) hle h64 (blockOf_length _ _ _ _) fun i hi => ?_
        unfold xorAt stream
        rw [show (64 * k + i) / 64 = k from by omega, show (64 * k + i) % 64 = i from by omega])
    (stepX b (upTo (xorAt wordO K c N b) b.length (64 * k)) (upTo (xorAt wordO K c N b) b.length (64 * (k + 1))) K N b.length (64 * k) m (IntKind.u32.wrap (c + (k : Int))) (IntKind.u32.wrap (c + ((k + 1 : Nat) : Int)))) (plX _ _ _ _)
  exact hstep
theorem loopX {b : List Int} (K N : Nat → Int) (c : Int) (hn : b.length ≤ 2 ^ 47) :
    RunsP (.loop cX) (tX b.length (IntKind.u32.wrap (c + ((0 : Nat) : Int))) 0) (sX b K N (List.replicate b.length 0)) (.exit 0) (slots 66 [(10, rowR 6 b.length)]) (sX b K N ((List.range b.length).map (xorAt wordO K c N b))) := by
  have h := Runs.count ((b.length + 63) / 64) (fun k => tX b.length (IntKind.u32.wrap (c + (k : Int))) (64 * k)) (fun k => sX b K N (upTo (xorAt wordO K c N b) b.length (64 * k)))
    (e := .exit 0) (te := slots 66 [(10, rowR 6 b.length)]) (se := sX b K N (upTo (xorAt wordO K c N b) b.length (64 * ((b.length + 63) / 64)))) (fun k hk => roundX K N c hn hk)
    (by
      refine step_ok xorEs_ok ?_ (stopX b _ K N _ _ _) (plX _ _ _ _)
      rw [stopXP]
      exact ⟨lss_eq (by simp; omega), trivial⟩) (by simp)
  rw [upTo_zero, upTo_all _ (show b.length ≤ 64 * ((b.length + 63) / 64) by omega)] at h
  exact h

/-- The whole of it: t: is it too long; out: what comes. -/
def hF (n : Nat) (c : Int) (t : Bool) (b : List Int) (K N : Nat → Int) (out : List Int) : Hint := ⟨fun r k => match r, k with
  | 1, 1 => some (.pure (.int .u64 c))
  | 1, 4 => some (.pure (.int .i64 ((n + 64 : Nat) : Int)))
  | 1, 5 => some (.pure (.int .i64 ((n + 63 : Nat) : Int)))
  | 1, 6 => some (.pure (.int .u64 ((n + 63 : Nat) : Int)))
  | 1, 7 => some (.pure (.int .u64 (((n + 63) / 64 : Nat) : Int)))
  | 1, 8 => some (.pure (.int .u64 (c + (((n + 63) / 64 : Nat) : Int))))
  | 1, 9 => some (.pure (.bool t))
  | 3, 2 => some (.eff (rowR 6 n) (fun s => s ++ [byR (List.replicate n 0) (.row 1)]) [])
  | _, _ => none, fun r => if r = 5 then some (liveX, fun _ _ => some (.exit 0, slots 66 [(10, rowR 6 n)], sX b K N out)) else none⟩
def argsX (K N : Nat → Int) (c : Int) (n : Nat) : List Value := [.agg ⟨u8N 32 K⟩, .int .u32 c, .agg ⟨u8N 12 N⟩, slR 3 n]
theorem longR (b : List Int) (K N : Nat → Int) (c : Int) (n : Nat) : goNH xorEs (hF n c true b K N []) 0 Try.f17 (argsX K N c n) [none, none, none, byR b .ro] =
    some (.tuple #[.slice none 0 0, .int .i64 5], [none, none, none, byR b .ro]) := by kernel_rfl
/-- What is reckoned of the length. -/
def lenOk (n : Nat) (c : Int) (t : Bool) : Prop :=
  some (Value.int .u64 (IntKind.u64.wrap c)) = some (.int .u64 c) ∧ aint .add .i64 (n : Int) 64 = some (.int .i64 ((n + 64 : Nat) : Int)) ∧ aint .sub .i64 ((n + 64 : Nat) : Int) 1 = some (.int .i64 ((n + 63 : Nat) : Int)) ∧
  some (Value.int .u64 (IntKind.u64.wrap ((n + 63 : Nat) : Int))) = some (.int .u64 ((n + 63 : Nat) : Int)) ∧ aint .quo .u64 ((n + 63 : Nat) : Int) 64 = some (.int .u64 (((n + 63) / 64 : Nat) : Int)) ∧
  aint .add .u64 c (((n + 63) / 64 : Nat) : Int) = some (.int .u64 (c + (((n + 63) / 64 : Nat) : Int))) ∧ aint .gtr .u64 (c + (((n + 63) / 64 : Nat) : Int)) 4294967296 = some (.bool t)
theorem longP (b : List Int) (K N : Nat → Int) (c : Int) (n : Nat) : owes xorEs (hF n c true b K N []) 0 Try.f17 (argsX K N c n) [none, none, none, byR b .ro] =
    (some (Value.int .u64 (IntKind.u64.wrap c)) = some (.int .u64 c) ∧ aint .add .i64 (n : Int) 64 = some (.int .i64 ((n + 64 : Nat) : Int)) ∧ aint .sub .i64 ((n + 64 : Nat) : Int) 1 = some (.int .i64 ((n + 63 : Nat) : Int)) ∧
     some (Value.int .u64 (IntKind.u64.wrap ((n + 63 : Nat) : Int))) = some (.int .u64 ((n + 63 : Nat) : Int)) ∧ aint .quo .u64 ((n + 63 : Nat) : Int) 64 = some (.int .u64 (((n + 63) / 64 : Nat) : Int)) ∧
     aint .add .u64 c (((n + 63) / 64 : Nat) : Int) = some (.int .u64 (c + (((n + 63) / 64 : Nat) : Int))) ∧ aint .gtr .u64 (c + (((n + 63) / 64 : Nat) : Int)) 4294967296 = some (.bool true) ∧ True) := by kernel_rfl
theorem fullR (b out : List Int) (K N : Nat → Int) (c : Int) (n : Nat) : goFH xorEs (hF n c false b K N out) 0 Try.f17 (argsX K N c n) [none, none, none, byR b .ro] =
    some (.tuple #[rowR 6 n, .int .i64 0], sX b K N out) := by kernel_rfl
theorem fullP (b out : List Int) (K N : Nat → Int) (c : Int) (n : Nat) : owes xorEs (hF n c false b K N out) 0 Try.f17 (argsX K N c n) [none, none, none, byR b .ro] =
    (some (Value.int .u64 (IntKind.u64.wrap c)) = some (.int .u64 c) ∧ aint .add .i64 (n : Int) 64 = some (.int .i64 ((n + 64 : Nat) : Int)) ∧ aint .sub .i64 ((n + 64 : Nat) : Int) 1 = some (.int .i64 ((n + 63 : Nat) : Int)) ∧
     some (Value.int .u64 (IntKind.u64.wrap ((n + 63 : Nat) : Int))) = some (.int .u64 ((n + 63 : Nat) : Int)) ∧ aint .quo .u64 ((n + 63 : Nat) : Int) 64 = some (.int .u64 (((n + 63) / 64 : Nat) : Int)) ∧
     aint .add .u64 c (((n + 63) / 64 : Nat) : Int) = some (.int .u64 (c + (((n + 63) / 64 : Nat) : Int))) ∧ aint .gtr .u64 (c + (((n + 63) / 64 : Nat) : Int)) 4294967296 = some (.bool false) ∧
     ((none : Option Value) = none ∧ effI (makeCore [none, none, none, byR b .ro, some ⟨u8N 32 K, .rw⟩, some ⟨u8N 12 N, .rw⟩] 1 (.int .u8 0) (n : Int) (n : Int)) none 6 =
       some (rowR 6 n, sX b K N (List.replicate n 0), .eff [] 6)) ∧
     RunsP (.loop cX) (tX n c 0) (sX b K N (List.replicate n 0)) (.exit 0) (slots 66 [(10, rowR 6 n)]) (sX b K N out) ∧ True) := by kernel_rfl
theorem lenOk_of {n : Nat} {c : Int} {t : Bool} (hc : 0 ≤ c ∧ c ≤ 4294967295) (hn : n ≤ 2 ^ 47) (ht : decide (c + (((n + 63) / 64 : Nat) : Int) > 4294967296) = t) : lenOk n c t := by
  refine ⟨by rw [u64_in c (by omega)], add_i64 (by omega) (by omega), ?_, by rw [u64_in _ (by omega)], ?_, ?_, ?_⟩
  · simp only [aint]; rw [i64_in _ (by omega)]; congr 2
    omega
  · simp only [aint]
    rw [if_neg (by decide)]
    have : ((n + 63 : Nat) : Int).tdiv 64 = (((n + 63) / 64 : Nat) : Int) := by
      rw [Int.tdiv_eq_ediv_of_nonneg (by omega)]; omega
    rw [this, u64_in _ (by omega)]
  · simp only [aint]; rw [u64_in _ (by omega)]
  · simp only [aint, ht]

def tooLong (n : Nat) (c : Int) : Bool := decide (c + (((n + 63) / 64 : Nat) : Int) > 4294967296)
/-- What Xor answers: nothing but an error, or the bytes, each with its place of the stream, in memory of their own. -/
def xorSpec (w : Int → Int → Int → Int → Int) (args : List Value) (st : St) : Option (Value × St) :=
  match args, st with
  | [.agg ⟨ks⟩, .int .u32 c, .agg ⟨ns⟩, .slice (some ⟨3, 0, none⟩) n d], [none, none, none, some ⟨xs, .ro⟩] => match u8s ks, u8s ns, u8s xs with
    | some K, some N, some b => if K.length = 32 ∧ N.length = 12 ∧ n = b.length ∧ d = b.length ∧ b.length ≤ 2 ^ 47 ∧ 0 ≤ c ∧ c ≤ 4294967295 then
        (if tooLong b.length c then some (.tuple #[.slice none 0 0, .int .i64 5], [none, none, none, byR b .ro])
         else some (.tuple #[rowR 4 b.length, .int .i64 0], [none, none, none, byR b .ro, byR ((List.range b.length).map (xorAt w (fun i => K.getD i 0) c (fun i => N.getD i 0) b)) (.row 1)])) else none
    | _, _, _ => none
  | _, _ => none
noncomputable def XorE : Entry := ⟨17, [.val, .val, .val, .sl false], xorSpec wordO⟩
theorem xor_long {b : List Int} (K N : Nat → Int) {c : Int} (hc : 0 ≤ c ∧ c ≤ 4294967295) (hn : b.length ≤ 2 ^ 47) (ht : tooLong b.length c = true) :
    AC Try.prog 17 (argsX K N c b.length) [none, none, none, byR b .ro] (.tuple #[.slice none 0 0, .int .i64 5]) [none, none, none, byR b .ro] := by
  refine runNH_ok xorEs_ok Try.func17 (by kernel_rfl) ?_ (longR b K N c b.length) rfl ?_ rfl
  · rw [longP]
    obtain ⟨h1, h2, h3, h4, h5, h6, h7⟩ := lenOk_of hc hn ht
    exact ⟨h1, h2, h3, h4, h5, h6, h7, trivial⟩
  · simp only [List.all_cons, List.all_nil, byR, plain_u8, plainReg, Bool.and_true, Bool.and_self]
theorem xor_full {b : List Int} (K N : Nat → Int) {c : Int} (hc : 0 ≤ c ∧ c ≤ 4294967295) (hn : b.length ≤ 2 ^ 47) (ht : tooLong b.length c = false) :
    AC Try.prog 17 (argsX K N c b.length) [none, none, none, byR b .ro] (.tuple #[rowR 4 b.length, .int .i64 0]) [none, none, none, byR b .ro, byR ((List.range b.length).map (xorAt wordO K c N b)) (.row 1)] := by
  have h := runH_ok xorEs_ok Try.func17 (by kernel_rfl) (hint := hF b.length c false b K N ((List.range b.length).map (xorAt wordO K c N b))) (n := 0) (a := argsX K N c b.length) (s := [none, none, none, byR b .ro])
    (by
      rw [fullP]
      obtain ⟨h1, h2, h3, h4, h5, h6, h7⟩ := lenOk_of hc hn ht
      refine ⟨h1, h2, h3, h4, h5, h6, h7, ⟨rfl, ?_⟩, ?_, trivial⟩
      · rw [make_u8 (by omega)]; rfl
      · have := loopX (b := b) K N c hn
        rw [show c + ((0 : Nat) : Int) = c by omega, u32_in c hc] at this
        exact this) (fullR b _ K N c b.length)
  refine view_plain h [0, 1, 2, 3, 6] rfl rfl rfl ?_ rfl
  simp only [List.all_cons, List.all_nil, byR, plain_u8, plainReg, Bool.and_true, Bool.and_self]
theorem XorE_ok : EntryOk Try.prog XorE := by
  refine ⟨fun a s r s' h => ?_, body_of Try.func17 (by kernel_rfl) (by kernel_rfl)⟩
  simp only [XorE] at h
  unfold xorSpec at h
  split at h
  · split at h
    · rename_i K N b hK hN hb
      split at h
      · rename_i hc
        obtain ⟨h1, h2, rfl, rfl, h5, h6⟩ := hc
        rw [u8s_spec hK, u8s_spec hN, list_range h1, list_range h2, u8s_spec hb]
        split at h
        · rename_i ht
          cases h
          exact xor_long _ _ h6 h5 ht
        · rename_i ht
          cases h
          exact xor_full _ _ h6 h5 (by simpa using ht)
      · cases h
    · cases h
  · cases h
end Go.Proofs.Ytgifhfoehmalcaa.Ch
