/- The document's Of of blake: what it comes to. Without conditions. -/
import Derived.Test.YtggkdjhgknghcaaBlR
namespace Go.Proofs.Ytggkdjhgknghcaa.Bl
open Am Run IntWalk

noncomputable def rofEs : List Entry := [startsE, rpressE]
theorem rofEs_ok : ∀ e ∈ rofEs, EntryOk Try.prog e := esc startsE_ok (es1 rpressE_ok)
/-- A block's 64 bytes of some, noughts behind them. -/
def blk64 (x : List Int) (o : Nat) : List Int := (List.range 64).map fun i => x.getD (o + i) 0
theorem blk64_length (x : List Int) (o : Nat) : (blk64 x o).length = 64 := by simp [blk64]
theorem blk64_getD (x : List Int) (o : Nat) {i : Nat} (h : i < 64) : (blk64 x o).getD i 0 = x.getD (o + i) 0 := by
  unfold blk64; rw [List.getD_eq_getElem?_getD, List.getElem?_map, List.getElem?_range h]; rfl
theorem words_blk (w : Int → Int → Int → Int → Int) (x : List Int) (o : Nat) : words w (fun i => (blk64 x o).getD i 0) = words w (fun i => x.getD (o + i) 0) := words_congr fun i hi => blk64_getD x o hi
theorem take_blk {x : List Int} {o : Nat} (h : o + 64 ≤ x.length) : (x.drop o).take 64 = blk64 x o := by
  apply List.ext_getElem?
  intro i
  by_cases hi : i < 64
  · rw [List.getElem?_take, if_pos hi, List.getElem?_drop, getD_get (by omega), blk64, List.getElem?_map, List.getElem?_range hi]; rfl
  · rw [List.getElem?_eq_none (by simp; omega), List.getElem?_eq_none (by simp [blk64]; omega)]
theorem cut_64 {i n a : Nat} (h : a + 64 ≤ n) : cut i 0 n n 1 (some (.int .i64 (a : Int))) (some (.int .i64 ((a + 64 : Nat) : Int))) none = some (.slice (some ⟨i, a, none⟩) 64 (n - a)) := by
  unfold cut
  simp only [Option.isSome_none, Bool.false_and, Bool.false_eq_true, if_false, bound?, Nat.le_refl, if_true]
  rw [if_pos ⟨by omega, by omega⟩]
  simp only
  rw [if_pos ⟨by omega, by omega⟩]
  simp
  omega
/-- What is copied over the first bytes of a row of noughts. -/
theorem copy_zeros {st : St} {p j o r : Nat} {x : List Int} {kd : RK} (hp : st[p]? = some (byR (List.replicate 64 0) (.row 1))) (hj : st[j]? = some (byR x kd)) (hr : o + r = x.length) (h64 : r ≤ 64) :
    copyCore st p 0 64 j o r = some (.int .i64 (r : Int), st.set p (byR (blk64 x o) (.row 1)), [p]) := by
  have hm : Nat.min r 64 = r := Nat.min_eq_left h64
  unfold copyCore
  rw [hm, rd_u8 hj (by omega)]
  have hl : ((x.drop o).take (r * 1)).length = r := by simp; omega
  have e : wr st p 0 (((x.drop o).take (r * 1)).map (.int .u8)) = some (st.set p (byR (blk64 x o) (.row 1))) := by
    unfold wr
    rw [hp]
    simp only [byR]
    rw [if_pos ⟨by simp, by rw [List.length_map, List.length_map, hl]; simp; omega, one_u8 _⟩]
    congr 2
    congr 1
    apply congrArg (fun l => Reg.mk l (.row 1))
    apply List.ext_getElem?
    intro i
    rw [splice_get (by rw [List.length_map, List.length_map, hl]; simp; omega)]
    simp only [List.length_map, hl, Nat.zero_le, true_and, Nat.zero_add, Nat.sub_zero]
    by_cases hi : i < 64
    · rw [List.getElem?_map, List.getElem?_map, List.getElem?_map, blk64, List.getElem?_map, List.getElem?_range hi, List.getElem?_replicate, if_pos hi, List.getElem?_take, List.getElem?_drop]
      by_cases h2 : i < r
      · rw [if_pos h2, if_pos (by omega), getD_get (by omega)]; rfl
      · rw [if_neg h2]; simp only [Option.map_some]; rw [getD_out (x := x) (i := o + i) (by omega)]
    · rw [if_neg (by omega), List.getElem?_eq_none (by simp; omega), List.getElem?_eq_none (by simp [blk64]; omega)]
  simp only [e]
theorem out8_get (h : V8) : ∀ i, i < 32 → (out8 h)[i]? = some (byteAt (h.list.getD (i / 4) 0) (i % 4))
  | 0, _ => by kernel_rfl
  | 1, _ => by kernel_rfl
  | 2, _ => by kernel_rfl
  | 3, _ => by kernel_rfl
  | 4, _ => by kernel_rfl
  | 5, _ => by kernel_rfl
  | 6, _ => by kernel_rfl
  | 7, _ => by kernel_rfl
  | 8, _ => by kernel_rfl
  | 9, _ => by kernel_rfl
  | 10, _ => by kernel_rfl
  | 11, _ => by kernel_rfl
  | 12, _ => by kernel_rfl
  | 13, _ => by kernel_rfl
  | 14, _ => by kernel_rfl
  | 15, _ => by kernel_rfl
  | 16, _ => by kernel_rfl
  | 17, _ => by kernel_rfl
  | 18, _ => by kernel_rfl
  | 19, _ => by kernel_rfl
  | 20, _ => by kernel_rfl
  | 21, _ => by kernel_rfl
  | 22, _ => by kernel_rfl
  | 23, _ => by kernel_rfl
  | 24, _ => by kernel_rfl
  | 25, _ => by kernel_rfl
  | 26, _ => by kernel_rfl
  | 27, _ => by kernel_rfl
  | 28, _ => by kernel_rfl
  | 29, _ => by kernel_rfl
  | 30, _ => by kernel_rfl
  | 31, _ => by kernel_rfl
  | n + 32, h => absurd h (by omega)
theorem cell_v8 {st : St} {p j : Nat} {h : V8} {kd : RK} (hp : st[p]? = some (some ⟨h.cells, kd⟩)) (hj : j < 8) : cellAt st p j = some (.int .u32 (h.list.getD j 0), p) := by
  unfold cellAt
  rw [hp]
  have : h.cells[j]? = some (.int .u32 (h.list.getD j 0)) := by
    have hl : h.list.length = 8 := rfl
    unfold V8.cells
    rw [List.getElem?_map, getD_get (by omega)]; rfl
  simp only [this]
theorem take_succ_get {l : List Int} {i : Nat} {x : Int} (h : l[i]? = some x) : l.take (i + 1) = l.take i ++ [x] := by
  rw [List.take_add_one, h]; rfl
def vR (h : V8) : Option Reg := some ⟨h.cells, .rw⟩
noncomputable def c1 : Code := loopOf 11 (body Try.f12)
noncomputable def c2 : Code := loopOf 19 (body Try.f12)
def hF0 : Hint := ⟨fun q i => match q, i with
  | 19, 2 => some (.pure (.bool false))
  | _, _ => none, fun _ => none⟩


/-! where the bytes stand in region 3 -/
def pa (key b : List Int) : St := [none, byR key .ro, byR b .ro]
def s1a (key b x : List Int) (h : V8) : St := [none, byR key .ro, byR b .ro, byR x (.row 1), vR h]
def t1a (size : Int) (n a : Nat) : List Value := slots 97 [(0, .int .i64 size), (8, rowR 3 n), (9, pR 4), (10, .int .i64 (a : Int))]
def h1a (n a : Nat) (g : V8) : Hint := ⟨fun q i => match q, i with
  | 11, 3 => some (.pure (.int .i64 ((n - a : Nat) : Int)))
  | 11, 4 => some (.pure (.bool true))
  | 12, 4 => some (.pure (.int .i64 ((a + 64 : Nat) : Int)))
  | 12, 5 => some (.pure (.slice (some ⟨3, a, none⟩) 64 (n - a)))
  | 12, 7 => some (.pure (.int .i64 ((a + 64 : Nat) : Int)))
  | 12, 8 => some (.read (.agg ⟨g.cells⟩) [3])
  | 13, 1 => some (.pure (.int .i64 ((a + 64 : Nat) : Int)))
  | _, _ => none, fun _ => none⟩
def h10a (n a : Nat) : Hint := ⟨fun q i => match q, i with
  | 11, 3 => some (.pure (.int .i64 ((n - a : Nat) : Int)))
  | 11, 4 => some (.pure (.bool false))
  | _, _ => none, fun _ => none⟩
theorem step1a (key b x : List Int) (h g : V8) (size : Int) (n a : Nat) : stepV rofEs (h1a n a g) 0 c1 (List.range 5) [] [0, 8, 9, 10] (t1a size n a) (s1a key b x h) = some (.normal, t1a size n (a + 64), s1a key b x g) := by kernel_rfl
theorem step1aP (key b x : List Int) (h g : V8) (size : Int) (n a : Nat) : stepP rofEs (h1a n a g) 0 c1 (t1a size n a) (s1a key b x h) =
    (aint .sub .i64 (n : Int) (a : Int) = some (.int .i64 ((n - a : Nat) : Int)) ∧ aint .gtr .i64 ((n - a : Nat) : Int) 64 = some (.bool true) ∧ aint .add .i64 (a : Int) 64 = some (.int .i64 ((a + 64 : Nat) : Int)) ∧
     cut 3 0 n n 1 (some (.int .i64 (a : Int))) (some (.int .i64 ((a + 64 : Nat) : Int))) none = some (.slice (some ⟨3, a, none⟩) 64 (n - a)) ∧ aint .add .i64 (a : Int) 64 = some (.int .i64 ((a + 64 : Nat) : Int)) ∧
     ((none : Option Value) = none ∧ effI (callE rpressE.ks rpressE.spec [.agg ⟨h.cells⟩, .slice (some ⟨3, a, none⟩) 64 (n - a), .int .i64 ((a + 64 : Nat) : Int), .bool false] (s1a key b x h)) (greads rpressE.ks [.agg ⟨h.cells⟩, .slice (some ⟨3, a, none⟩) 64 (n - a), .int .i64 ((a + 64 : Nat) : Int), .bool false]) 5 = some (.agg ⟨g.cells⟩, s1a key b x h, .load [3])) ∧
     aint .add .i64 (a : Int) 64 = some (.int .i64 ((a + 64 : Nat) : Int)) ∧ True) := by kernel_rfl
theorem stop1a (key b x : List Int) (h : V8) (size : Int) (n a : Nat) : stepV rofEs (h10a n a) 0 c1 (List.range 5) [] [0, 8, 9, 10] (t1a size n a) (s1a key b x h) = some (.exit 0, t1a size n a, s1a key b x h) := by kernel_rfl
theorem stop1aP (key b x : List Int) (h : V8) (size : Int) (n a : Nat) : stepP rofEs (h10a n a) 0 c1 (t1a size n a) (s1a key b x h) =
    (aint .sub .i64 (n : Int) (a : Int) = some (.int .i64 ((n - a : Nat) : Int)) ∧ aint .gtr .i64 ((n - a : Nat) : Int) 64 = some (.bool false) ∧ True) := by kernel_rfl
theorem pl1a (key b x : List Int) (h : V8) : plainBut [] 0 (s1a key b x h) = true := by
  have e1 : plainReg none = true := rfl
  have e2 : plainReg (vR h) = true := rfl
  simp only [s1a, plainBut, byR, plainReg_u8, e1, e2, Bool.or_true, Bool.and_true]
theorem loop1a (key b x : List Int) (h : V8) (size : Int) (hx : x.length ≤ 2 ^ 48) : RunsP (.loop c1) (t1a size x.length 0) (s1a key b x h) (.exit 0) (t1a size x.length (64 * lastQ x)) (s1a key b x (blks wordA h x (lastQ x))) := by
  have hq : lastQ x = (x.length - 1) / 64 := rfl
  refine Runs.count (lastQ x) (fun k => t1a size x.length (64 * k)) (fun k => s1a key b x (blks wordA h x k)) (fun k hk => ?_) ?_ (by simp)
  · have hlt : 64 * k + 64 < x.length := by omega
    refine step_ok rofEs_ok ?_ (step1a key b x (blks wordA h x k) (blks wordA h x (k + 1)) size x.length (64 * k)) (pl1a _ _ _ _)
    rw [step1aP]
    refine ⟨sub_i64 (by omega) (by omega), gtr_eq (by simp; omega), add_i64 (by omega) (by omega), cut_64 (by omega), add_i64 (by omega) (by omega), ⟨rfl, ?_⟩, add_i64 (by omega) (by omega), trivial⟩
    have hb := Bys.part (st := s1a key b x (blks wordA h x k)) (i := 3) (off := 64 * k) (n := 64) (c := x.length - 64 * k) rfl (by omega) (by omega)
    rw [take_blk (by omega)] at hb
    have := owe_rpress (h := blks wordA h x k) (t := ((64 * k + 64 : Nat) : Int)) (last := false) (len := 5) hb (blk64_length _ _) rfl
    rw [words_blk] at this
    exact this
  · refine step_ok rofEs_ok ?_ (stop1a key b x _ size x.length _) (pl1a _ _ _ _)
    rw [stop1aP]
    exact ⟨sub_i64 (by omega) (by omega), gtr_eq (by simp; omega), trivial⟩

def s2a (key b x k o : List Int) (h : V8) : St := [none, byR key .ro, byR b .ro, byR x (.row 1), vR h, byR k (.row 1), byR o (.row 1)]
def t2a (z i : Nat) : List Value := slots 97 [(0, .int .i64 (z : Int)), (9, pR 4), (12, rowR 6 i), (13, .int .i64 (i : Int))]
def h2a (i : Nat) (x v : Int) (o : List Int) : Hint := ⟨fun q j => match q, j with
  | 19, 2 => some (.pure (.bool true))
  | 21, 2 => some (.pure (.int .i64 ((i / 4 : Nat) : Int)))
  | 21, 3 => some (.pure (.pointer (some ⟨4, i / 4, none⟩)))
  | 21, 4 => some (.load (.int .u32 x) 4)
  | 21, 6 => some (.pure (.int .i64 ((i % 4 : Nat) : Int)))
  | 21, 7 => some (.pure (.int .i64 ((8 * (i % 4) : Nat) : Int)))
  | 21, 8 => some (.pure (.int .u32 v))
  | 21, 11 => some (.eff (rowR 8 (i + 1)) (fun s => s.set 6 none ++ [byR (o ++ [IntKind.u8.wrap v]) (.row 1)]) [6])
  | 20, 1 => some (.pure (.int .i64 ((i + 1 : Nat) : Int)))
  | _, _ => none, fun _ => none⟩
theorem step2a (key b x k o : List Int) (h : V8) (z i : Nat) (y v : Int) : stepV rofEs (h2a i y v o) 0 c2 [0, 1, 2, 3, 4, 5, 8] [] [0, 9, 12, 13] (t2a z i) (s2a key b x k o h) = some (.normal, t2a z (i + 1), s2a key b x k (o ++ [IntKind.u8.wrap v]) h) := by kernel_rfl
theorem step2aP (key b x k o : List Int) (h : V8) (z i : Nat) (y v : Int) : stepP rofEs (h2a i y v o) 0 c2 (t2a z i) (s2a key b x k o h) =
    (aint .lss .i64 (i : Int) (z : Int) = some (.bool true) ∧ aint .quo .i64 (i : Int) 4 = some (.int .i64 ((i / 4 : Nat) : Int)) ∧ idxAt 4 0 1 8 ((i / 4 : Nat) : Int) = some (.pointer (some ⟨4, i / 4, none⟩)) ∧
     cellAt (s2a key b x k o h) 4 (i / 4) = some (.int .u32 y, 4) ∧ aint .rem .i64 (i : Int) 4 = some (.int .i64 ((i % 4 : Nat) : Int)) ∧ aint .mul .i64 8 ((i % 4 : Nat) : Int) = some (.int .i64 ((8 * (i % 4) : Nat) : Int)) ∧
     (if ((8 * (i % 4) : Nat) : Int) < 0 then none else some (Value.int .u32 (y.fdiv (2 ^ (min ((8 * (i % 4) : Nat) : Int).toNat 32))))) = some (.int .u32 v) ∧
     ((none : Option Value) = none ∧ effI (appendCore (s2a key b x k o h ++ [byR [IntKind.u8.wrap v] (.row 1)]) 1 1 (.int .u8 0) (rowR 6 i) (some (1, [.int .u8 (IntKind.u8.wrap v)]))) none 8 =
       some (rowR 8 (i + 1), (s2a key b x k o h ++ [byR [IntKind.u8.wrap v] (.row 1)]).set 6 none ++ [byR (o ++ [IntKind.u8.wrap v]) (.row 1)], .eff [6] 8)) ∧
     aint .add .i64 (i : Int) 1 = some (.int .i64 ((i + 1 : Nat) : Int)) ∧ True) := by kernel_rfl
theorem stop2a (key b x k o : List Int) (h : V8) (z : Nat) : stepV rofEs hF0 0 c2 (List.range 7) [] [12] (t2a z z) (s2a key b x k o h) = some (.exit 2, slots 97 [(12, rowR 6 z)], s2a key b x k o h) := by kernel_rfl
theorem stop2aP (key b x k o : List Int) (h : V8) (z : Nat) : stepP rofEs hF0 0 c2 (t2a z z) (s2a key b x k o h) = (aint .lss .i64 (z : Int) (z : Int) = some (.bool false) ∧ True) := by kernel_rfl
theorem pl2a (key b x k o : List Int) (h : V8) : plainBut [] 0 (s2a key b x k o h) = true := by
  have e1 : plainReg none = true := rfl
  have e2 : plainReg (vR h) = true := rfl
  simp only [s2a, plainBut, byR, plainReg_u8, e1, e2, Bool.or_true, Bool.and_true]
theorem loop2a (key b x k : List Int) (h : V8) {z : Nat} (hz : z ≤ 32) : RunsP (.loop c2) (t2a z 0) (s2a key b x k [] h) (.exit 2) (slots 97 [(12, rowR 6 z)]) (s2a key b x k ((out8 h).take z) h) := by
  refine Runs.count z (t2a z) (fun i => s2a key b x k ((out8 h).take i) h) (fun i hi => ?_) ?_ (by simp)
  · have hl : ((out8 h).take i).length = i := by rw [List.length_take, out8_length]; omega
    have hy : (out8 h)[i]? = some (IntKind.u8.wrap ((h.list.getD (i / 4) 0).fdiv (2 ^ (8 * (i % 4))))) := out8_get h i (by omega)
    rw [take_succ_get hy]
    refine step_ok rofEs_ok ?_ (step2a key b x k ((out8 h).take i) h z i (h.list.getD (i / 4) 0) ((h.list.getD (i / 4) 0).fdiv (2 ^ (8 * (i % 4))))) (pl2a _ _ _ _ _ _)
    rw [step2aP]
    refine ⟨lss_eq (by simp; omega), quo_nat (d := 4) rfl (by decide) (by omega), idx_ok0 (by omega), cell_v8 rfl (by omega), rem_nat (d := 4) rfl (by decide), mul_i64 (by omega) (by omega), ?_, ⟨rfl, ?_⟩, add_i64 (by omega) (by omega), trivial⟩
    · rw [if_neg (by omega), Int.toNat_natCast, Nat.min_eq_left (by omega)]
    · rw [append_one (i := 6) (a := (out8 h).take i) rfl hl (by omega)]
      rfl
  · refine step_ok rofEs_ok ?_ (stop2a key b x k _ h z) (pl2a _ _ _ _ _ _)
    rw [stop2aP]
    exact ⟨lss_eq (by simp), trivial⟩


/-! where the bytes stand in region 5 -/
def pb (key b : List Int) : St := [none, byR key .ro, byR b .ro, none, none]
def s1b (key b x : List Int) (h : V8) : St := [none, byR key .ro, byR b .ro, none, none, byR x (.row 1), vR h]
def t1b (size : Int) (n a : Nat) : List Value := slots 97 [(0, .int .i64 size), (8, rowR 5 n), (9, pR 6), (10, .int .i64 (a : Int))]
def h1b (n a : Nat) (g : V8) : Hint := ⟨fun q i => match q, i with
  | 11, 3 => some (.pure (.int .i64 ((n - a : Nat) : Int)))
  | 11, 4 => some (.pure (.bool true))
  | 12, 4 => some (.pure (.int .i64 ((a + 64 : Nat) : Int)))
  | 12, 5 => some (.pure (.slice (some ⟨5, a, none⟩) 64 (n - a)))
  | 12, 7 => some (.pure (.int .i64 ((a + 64 : Nat) : Int)))
  | 12, 8 => some (.read (.agg ⟨g.cells⟩) [5])
  | 13, 1 => some (.pure (.int .i64 ((a + 64 : Nat) : Int)))
  | _, _ => none, fun _ => none⟩
def h10b (n a : Nat) : Hint := ⟨fun q i => match q, i with
  | 11, 3 => some (.pure (.int .i64 ((n - a : Nat) : Int)))
  | 11, 4 => some (.pure (.bool false))
  | _, _ => none, fun _ => none⟩
theorem step1b (key b x : List Int) (h g : V8) (size : Int) (n a : Nat) : stepV rofEs (h1b n a g) 0 c1 (List.range 7) [] [0, 8, 9, 10] (t1b size n a) (s1b key b x h) = some (.normal, t1b size n (a + 64), s1b key b x g) := by kernel_rfl
theorem step1bP (key b x : List Int) (h g : V8) (size : Int) (n a : Nat) : stepP rofEs (h1b n a g) 0 c1 (t1b size n a) (s1b key b x h) =
    (aint .sub .i64 (n : Int) (a : Int) = some (.int .i64 ((n - a : Nat) : Int)) ∧ aint .gtr .i64 ((n - a : Nat) : Int) 64 = some (.bool true) ∧ aint .add .i64 (a : Int) 64 = some (.int .i64 ((a + 64 : Nat) : Int)) ∧
     cut 5 0 n n 1 (some (.int .i64 (a : Int))) (some (.int .i64 ((a + 64 : Nat) : Int))) none = some (.slice (some ⟨5, a, none⟩) 64 (n - a)) ∧ aint .add .i64 (a : Int) 64 = some (.int .i64 ((a + 64 : Nat) : Int)) ∧
     ((none : Option Value) = none ∧ effI (callE rpressE.ks rpressE.spec [.agg ⟨h.cells⟩, .slice (some ⟨5, a, none⟩) 64 (n - a), .int .i64 ((a + 64 : Nat) : Int), .bool false] (s1b key b x h)) (greads rpressE.ks [.agg ⟨h.cells⟩, .slice (some ⟨5, a, none⟩) 64 (n - a), .int .i64 ((a + 64 : Nat) : Int), .bool false]) 7 = some (.agg ⟨g.cells⟩, s1b key b x h, .load [5])) ∧
     aint .add .i64 (a : Int) 64 = some (.int .i64 ((a + 64 : Nat) : Int)) ∧ True) := by kernel_rfl
theorem stop1b (key b x : List Int) (h : V8) (size : Int) (n a : Nat) : stepV rofEs (h10b n a) 0 c1 (List.range 7) [] [0, 8, 9, 10] (t1b size n a) (s1b key b x h) = some (.exit 0, t1b size n a, s1b key b x h) := by kernel_rfl
theorem stop1bP (key b x : List Int) (h : V8) (size : Int) (n a : Nat) : stepP rofEs (h10b n a) 0 c1 (t1b size n a) (s1b key b x h) =
    (aint .sub .i64 (n : Int) (a : Int) = some (.int .i64 ((n - a : Nat) : Int)) ∧ aint .gtr .i64 ((n - a : Nat) : Int) 64 = some (.bool false) ∧ True) := by kernel_rfl
theorem pl1b (key b x : List Int) (h : V8) : plainBut [] 0 (s1b key b x h) = true := by
  have e1 : plainReg none = true := rfl
  have e2 : plainReg (vR h) = true := rfl
  simp only [s1b, plainBut, byR, plainReg_u8, e1, e2, Bool.or_true, Bool.and_true]
theorem loop1b (key b x : List Int) (h : V8) (size : Int) (hx : x.length ≤ 2 ^ 48) : RunsP (.loop c1) (t1b size x.length 0) (s1b key b x h) (.exit 0) (t1b size x.length (64 * lastQ x)) (s1b key b x (blks wordA h x (lastQ x))) := by
  have hq : lastQ x = (x.length - 1) / 64 := rfl
  refine Runs.count (lastQ x) (fun k => t1b size x.length (64 * k)) (fun k => s1b key b x (blks wordA h x k)) (fun k hk => ?_) ?_ (by simp)
  · have hlt : 64 * k + 64 < x.length := by omega
    refine step_ok rofEs_ok ?_ (step1b key b x (blks wordA h x k) (blks wordA h x (k + 1)) size x.length (64 * k)) (pl1b _ _ _ _)
    rw [step1bP]
    refine ⟨sub_i64 (by omega) (by omega), gtr_eq (by simp; omega), add_i64 (by omega) (by omega), cut_64 (by omega), add_i64 (by omega) (by omega), ⟨rfl, ?_⟩, add_i64 (by omega) (by omega), trivial⟩
    have hb := Bys.part (st := s1b key b x (blks wordA h x k)) (i := 5) (off := 64 * k) (n := 64) (c := x.length - 64 * k) rfl (by omega) (by omega)
    rw [take_blk (by omega)] at hb
    have := owe_rpress (h := blks wordA h x k) (t := ((64 * k + 64 : Nat) : Int)) (last := false) (len := 7) hb (blk64_length _ _) rfl
    rw [words_blk] at this
    exact this
  · refine step_ok rofEs_ok ?_ (stop1b key b x _ size x.length _) (pl1b _ _ _ _)
    rw [stop1bP]
    exact ⟨sub_i64 (by omega) (by omega), gtr_eq (by simp; omega), trivial⟩

def s2b (key b x k o : List Int) (h : V8) : St := [none, byR key .ro, byR b .ro, none, none, byR x (.row 1), vR h, byR k (.row 1), byR o (.row 1)]
def t2b (z i : Nat) : List Value := slots 97 [(0, .int .i64 (z : Int)), (9, pR 6), (12, rowR 8 i), (13, .int .i64 (i : Int))]
def h2b (i : Nat) (x v : Int) (o : List Int) : Hint := ⟨fun q j => match q, j with
  | 19, 2 => some (.pure (.bool true))
  | 21, 2 => some (.pure (.int .i64 ((i / 4 : Nat) : Int)))
  | 21, 3 => some (.pure (.pointer (some ⟨6, i / 4, none⟩)))
  | 21, 4 => some (.load (.int .u32 x) 6)
  | 21, 6 => some (.pure (.int .i64 ((i % 4 : Nat) : Int)))
  | 21, 7 => some (.pure (.int .i64 ((8 * (i % 4) : Nat) : Int)))
  | 21, 8 => some (.pure (.int .u32 v))
  | 21, 11 => some (.eff (rowR 10 (i + 1)) (fun s => s.set 8 none ++ [byR (o ++ [IntKind.u8.wrap v]) (.row 1)]) [8])
  | 20, 1 => some (.pure (.int .i64 ((i + 1 : Nat) : Int)))
  | _, _ => none, fun _ => none⟩
theorem step2b (key b x k o : List Int) (h : V8) (z i : Nat) (y v : Int) : stepV rofEs (h2b i y v o) 0 c2 [0, 1, 2, 3, 4, 5, 6, 7, 10] [] [0, 9, 12, 13] (t2b z i) (s2b key b x k o h) = some (.normal, t2b z (i + 1), s2b key b x k (o ++ [IntKind.u8.wrap v]) h) := by kernel_rfl
theorem step2bP (key b x k o : List Int) (h : V8) (z i : Nat) (y v : Int) : stepP rofEs (h2b i y v o) 0 c2 (t2b z i) (s2b key b x k o h) =
    (aint .lss .i64 (i : Int) (z : Int) = some (.bool true) ∧ aint .quo .i64 (i : Int) 4 = some (.int .i64 ((i / 4 : Nat) : Int)) ∧ idxAt 6 0 1 8 ((i / 4 : Nat) : Int) = some (.pointer (some ⟨6, i / 4, none⟩)) ∧
     cellAt (s2b key b x k o h) 6 (i / 4) = some (.int .u32 y, 6) ∧ aint .rem .i64 (i : Int) 4 = some (.int .i64 ((i % 4 : Nat) : Int)) ∧ aint .mul .i64 8 ((i % 4 : Nat) : Int) = some (.int .i64 ((8 * (i % 4) : Nat) : Int)) ∧
     (if ((8 * (i % 4) : Nat) : Int) < 0 then none else some (Value.int .u32 (y.fdiv (2 ^ (min ((8 * (i % 4) : Nat) : Int).toNat 32))))) = some (.int .u32 v) ∧
     ((none : Option Value) = none ∧ effI (appendCore (s2b key b x k o h ++ [byR [IntKind.u8.wrap v] (.row 1)]) 1 1 (.int .u8 0) (rowR 8 i) (some (1, [.int .u8 (IntKind.u8.wrap v)]))) none 10 =
       some (rowR 10 (i + 1), (s2b key b x k o h ++ [byR [IntKind.u8.wrap v] (.row 1)]).set 8 none ++ [byR (o ++ [IntKind.u8.wrap v]) (.row 1)], .eff [8] 10)) ∧
     aint .add .i64 (i : Int) 1 = some (.int .i64 ((i + 1 : Nat) : Int)) ∧ True) := by kernel_rfl
theorem stop2b (key b x k o : List Int) (h : V8) (z : Nat) : stepV rofEs hF0 0 c2 (List.range 9) [] [12] (t2b z z) (s2b key b x k o h) = some (.exit 2, slots 97 [(12, rowR 8 z)], s2b key b x k o h) := by kernel_rfl
theorem stop2bP (key b x k o : List Int) (h : V8) (z : Nat) : stepP rofEs hF0 0 c2 (t2b z z) (s2b key b x k o h) = (aint .lss .i64 (z : Int) (z : Int) = some (.bool false) ∧ True) := by kernel_rfl
theorem pl2b (key b x k o : List Int) (h : V8) : plainBut [] 0 (s2b key b x k o h) = true := by
  have e1 : plainReg none = true := rfl
  have e2 : plainReg (vR h) = true := rfl
  simp only [s2b, plainBut, byR, plainReg_u8, e1, e2, Bool.or_true, Bool.and_true]
theorem loop2b (key b x k : List Int) (h : V8) {z : Nat} (hz : z ≤ 32) : RunsP (.loop c2) (t2b z 0) (s2b key b x k [] h) (.exit 2) (slots 97 [(12, rowR 8 z)]) (s2b key b x k ((out8 h).take z) h) := by
  refine Runs.count z (t2b z) (fun i => s2b key b x k ((out8 h).take i) h) (fun i hi => ?_) ?_ (by simp)
  · have hl : ((out8 h).take i).length = i := by rw [List.length_take, out8_length]; omega
    have hy : (out8 h)[i]? = some (IntKind.u8.wrap ((h.list.getD (i / 4) 0).fdiv (2 ^ (8 * (i % 4))))) := out8_get h i (by omega)
    rw [take_succ_get hy]
    refine step_ok rofEs_ok ?_ (step2b key b x k ((out8 h).take i) h z i (h.list.getD (i / 4) 0) ((h.list.getD (i / 4) 0).fdiv (2 ^ (8 * (i % 4))))) (pl2b _ _ _ _ _ _)
    rw [step2bP]
    refine ⟨lss_eq (by simp; omega), quo_nat (d := 4) rfl (by decide) (by omega), idx_ok0 (by omega), cell_v8 rfl (by omega), rem_nat (d := 4) rfl (by decide), mul_i64 (by omega) (by omega), ?_, ⟨rfl, ?_⟩, add_i64 (by omega) (by omega), trivial⟩
    · rw [if_neg (by omega), Int.toNat_natCast, Nat.min_eq_left (by omega)]
    · rw [append_one (i := 8) (a := (out8 h).take i) rfl hl (by omega)]
      rfl
  · refine step_ok rofEs_ok ?_ (stop2b key b x k _ h z) (pl2b _ _ _ _ _ _)
    rw [stop2bP]
    exact ⟨lss_eq (by simp), trivial⟩


/-! the whole of it -/
def h0r (size : Int) (p : Nat) : V8 := { iv with x0 := xor32 (xor32 (xor32 iv.x0 16842752) (IntKind.u32.wrap (IntKind.i64.wrap (256 * (p : Int))))) (IntKind.u32.wrap size) }
theorem h0r_eq (size : Int) {p : Nat} (h : p ≤ 32) : h0r size p = h0 size p := by
  have e : IntKind.u32.wrap (IntKind.i64.wrap (256 * (p : Int))) = shl32 (p : Int) 8 := by
    unfold shl32
    rw [i64_in _ (by omega)]
    simp only [IntKind.wrap_u32]; omega
  unfold h0r h0
  rw [e, xor_assoc32, xor_assoc32, xor_assoc32]
def rargs (z p q : Nat) : List Value := [.int .i64 (z : Int), slR 1 p, slR 2 q]
theorem rofR1 (size : Int) (key b : List Int) (p q : Nat) : goNH rofEs hN1 0 Try.f12 (argsO size p q) (sO key b) = some (.tuple #[.slice none 0 0, .int .i64 2], sO key b) := by kernel_rfl
theorem rofP1 (size : Int) (key b : List Int) (p q : Nat) : owes rofEs hN1 0 Try.f12 (argsO size p q) (sO key b) = (aint .lss .i64 size 1 = some (.bool true) ∧ True) := by kernel_rfl
theorem rofR2 (size : Int) (key b : List Int) (p q : Nat) : goNH rofEs hN2 0 Try.f12 (argsO size p q) (sO key b) = some (.tuple #[.slice none 0 0, .int .i64 2], sO key b) := by kernel_rfl
theorem rofP2 (size : Int) (key b : List Int) (p q : Nat) : owes rofEs hN2 0 Try.f12 (argsO size p q) (sO key b) = (aint .lss .i64 size 1 = some (.bool false) ∧ aint .gtr .i64 size 32 = some (.bool true) ∧ True) := by kernel_rfl
theorem rofR3 (size : Int) (key b : List Int) (p q : Nat) : goNH rofEs hN3 0 Try.f12 (argsO size p q) (sO key b) = some (.tuple #[.slice none 0 0, .int .i64 2], sO key b) := by kernel_rfl
theorem rofP3 (size : Int) (key b : List Int) (p q : Nat) : owes rofEs hN3 0 Try.f12 (argsO size p q) (sO key b) = (aint .lss .i64 size 1 = some (.bool false) ∧ aint .gtr .i64 size 32 = some (.bool false) ∧ aint .gtr .i64 (p : Int) 32 = some (.bool true) ∧ True) := by kernel_rfl
theorem rof_bad {size : Int} {key b : List Int} (h : badN size key.length) : AC Try.prog 12 (argsO size key.length b.length) (sO key b) (.tuple #[.slice none 0 0, .int .i64 2]) (sO key b) := by
  have pl : (sO key b).all plainReg = true := by simp only [sO, List.all_cons, List.all_nil, byR, plain_u8, plainReg, Bool.and_true, Bool.and_self]
  unfold badN at h
  by_cases h1 : size < 1
  · refine runNH_ok rofEs_ok Try.func12 (by kernel_rfl) ?_ (rofR1 size key b _ _) rfl pl rfl
    rw [rofP1]; exact ⟨lss_eq (by simpa using h1), trivial⟩
  · by_cases h2 : 32 < size
    · refine runNH_ok rofEs_ok Try.func12 (by kernel_rfl) ?_ (rofR2 size key b _ _) rfl pl rfl
      rw [rofP2]; exact ⟨lss_eq (by simp; omega), gtr_eq (by simpa using h2), trivial⟩
    · refine runNH_ok rofEs_ok Try.func12 (by kernel_rfl) ?_ (rofR3 size key b _ _) rfl pl rfl
      rw [rofP3]; exact ⟨lss_eq (by simp; omega), gtr_eq (by simp; omega), gtr_eq (by simp; omega), trivial⟩


def hGa (z q : Nat) (b x : List Int) (a : Nat) (h g : V8) : Hint := ⟨fun u i => match u, i with
  | 1, 1 => some (.pure (.bool false))
  | 1, 4 => some (.pure (.bool false))
  | 7, 2 => some (.eff (rowR 3 q) (fun s => s ++ [byR x (.row 1)]) [])
  | 15, 3 => some (.pure (.slice (some ⟨3, a, none⟩) (q - a) (q - a)))
  | 15, 4 => some (.eff (.int .i64 ((q - a : Nat) : Int)) (fun s => s.set 5 (byR (blk64 x a) (.row 1))) [5])
  | 16, 4 => some (.read (.agg ⟨g.cells⟩) [5])
  | _, _ => none, fun r => if r = 11 then some ([0, 8, 9, 10], fun _ _ => some (.exit 0, t1a (z : Int) q a, s1a [] b x h)) else
     if r = 19 then some ([0, 9, 12, 13], fun _ _ => some (.exit 2, slots 97 [(12, rowR 6 z)], s2a [] b x (blk64 x a) ((out8 g).take z) g)) else none⟩
theorem rofaR (z q : Nat) (b x : List Int) (a : Nat) (h g : V8) : goFH rofEs (hGa z q  b x a h g) 0 Try.f12 (rargs z 0 q) (sO [] b) = some (.tuple #[rowR 6 z, .int .i64 0], s2a [] b x (blk64 x a) ((out8 g).take z) g) := by kernel_rfl
theorem rofaP (z q : Nat) (b x : List Int) (a : Nat) (h g : V8) : owes rofEs (hGa z q  b x a h g) 0 Try.f12 (rargs z 0 q) (sO [] b) =
    (aint .lss .i64 (z : Int) 1 = some (.bool false) ∧ aint .gtr .i64 (z : Int) 32 = some (.bool false) ∧
     ((none : Option Value) = none ∧ effI (appendCore (sO [] b) 1 1 (.int .u8 0) (.slice none 0 0) (source (sO [] b) 1 (slR 2 q))) none 3 = some (rowR 3 q, sO [] b ++ [byR x (.row 1)], .eff [] 3)) ∧
     RunsP (.loop c1) (t1a (z : Int) q 0) (s1a [] b x (h0r (z : Int) 0)) (.exit 0) (t1a (z : Int) q a) (s1a [] b x h) ∧
     cut 3 0 q q 1 (some (.int .i64 (a : Int))) none none = some (.slice (some ⟨3, a, none⟩) (q - a) (q - a)) ∧
     ((none : Option Value) = none ∧ effI (copyCore (s1a [] b x h ++ [byR (List.replicate 64 0) (.row 1)]) 5 0 64 3 a (q - a)) none 6 = some (.int .i64 ((q - a : Nat) : Int), s1a [] b x h ++ [byR (blk64 x a) (.row 1)], .eff [5] 6)) ∧
     ((none : Option Value) = none ∧ effI (callE rpressE.ks rpressE.spec [.agg ⟨h.cells⟩, rowR 5 64, .int .i64 (q : Nat), .bool true] (s1a [] b x h ++ [byR (blk64 x a) (.row 1)])) (greads rpressE.ks [.agg ⟨h.cells⟩, rowR 5 64, .int .i64 (q : Nat), .bool true]) 6 = some (.agg ⟨g.cells⟩, s1a [] b x h ++ [byR (blk64 x a) (.row 1)], .load [5])) ∧
     RunsP (.loop c2) (slots 97 [(0, .int .i64 (z : Int)), (9, pR 4), (12, .slice none 0 0), (13, .int .i64 0)]) (s1a [] b x g ++ [byR (blk64 x a) (.row 1)]) (.exit 2) (slots 97 [(12, rowR 6 z)]) (s2a [] b x (blk64 x a) ((out8 g).take z) g) ∧ True) := by kernel_rfl


def hGb (z q : Nat) (key kb : List Int) (p : Nat) (b x : List Int) (a : Nat) (h g : V8) : Hint := ⟨fun u i => match u, i with
  | 1, 1 => some (.pure (.bool false))
  | 1, 4 => some (.pure (.bool false))
  | 1, 9 => some (.pure (.bool false))
  | 4, 2 => some (.pure (.bool true))
  | 5, 2 => some (.eff (rowR 3 p) (fun s => s ++ [byR key (.row 1)]) [])
  | 6, 3 => some (.pure (.int .i64 ((64 - p : Nat) : Int)))
  | 6, 4 => some (.eff (rowR 4 64) (fun s => s.set 3 none ++ [byR kb (.row 1)]) [3])
  | 7, 2 => some (.eff (rowR 5 (64 + q)) (fun s => s.set 4 none ++ [byR x (.row 1)]) [4])
  | 15, 3 => some (.pure (.slice (some ⟨5, a, none⟩) ((64 + q) - a) ((64 + q) - a)))
  | 15, 4 => some (.eff (.int .i64 (((64 + q) - a : Nat) : Int)) (fun s => s.set 7 (byR (blk64 x a) (.row 1))) [7])
  | 16, 4 => some (.read (.agg ⟨g.cells⟩) [7])
  | _, _ => none, fun r => if r = 11 then some ([0, 8, 9, 10], fun _ _ => some (.exit 0, t1b (z : Int) (64 + q) a, s1b key b x h)) else
     if r = 19 then some ([0, 9, 12, 13], fun _ _ => some (.exit 2, slots 97 [(12, rowR 8 z)], s2b key b x (blk64 x a) ((out8 g).take z) g)) else none⟩
theorem rofbR (key kb : List Int) (p : Nat) (z q : Nat) (b x : List Int) (a : Nat) (h g : V8) : goFH rofEs (hGb z q key kb p b x a h g) 0 Try.f12 (rargs z p q) (sO key b) = some (.tuple #[rowR 8 z, .int .i64 0], s2b key b x (blk64 x a) ((out8 g).take z) g) := by kernel_rfl
theorem rofbP (key kb : List Int) (p : Nat) (z q : Nat) (b x : List Int) (a : Nat) (h g : V8) : owes rofEs (hGb z q key kb p b x a h g) 0 Try.f12 (rargs z p q) (sO key b) =
    (aint .lss .i64 (z : Int) 1 = some (.bool false) ∧ aint .gtr .i64 (z : Int) 32 = some (.bool false) ∧ aint .gtr .i64 (p : Int) 32 = some (.bool false) ∧ aint .gtr .i64 (p : Int) 0 = some (.bool true) ∧
     ((none : Option Value) = none ∧ effI (appendCore (sO key b) 1 1 (.int .u8 0) (.slice none 0 0) (source (sO key b) 1 (slR 1 p))) none 3 = some (rowR 3 p, sO key b ++ [byR key (.row 1)], .eff [] 3)) ∧
     aint .sub .i64 64 (p : Int) = some (.int .i64 ((64 - p : Nat) : Int)) ∧
     ((none : Option Value) = none ∧ effI (appendCore (sO key b ++ [byR key (.row 1)]) 1 1 (.int .u8 0) (rowR 3 p) (zsource (.int .u8 0) ((64 - p : Nat) : Int))) none 4 = some (rowR 4 64, sO key b ++ [none] ++ [byR kb (.row 1)], .eff [3] 4)) ∧
     ((none : Option Value) = none ∧ effI (appendCore (sO key b ++ [none] ++ [byR kb (.row 1)]) 1 1 (.int .u8 0) (rowR 4 64) (source (sO key b ++ [none] ++ [byR kb (.row 1)]) 1 (slR 2 q))) none 5 = some (rowR 5 (64 + q), pb key b ++ [byR x (.row 1)], .eff [4] 5)) ∧
     RunsP (.loop c1) (t1b (z : Int) (64 + q) 0) (s1b key b x (h0r (z : Int) p)) (.exit 0) (t1b (z : Int) (64 + q) a) (s1b key b x h) ∧
     cut 5 0 (64 + q) (64 + q) 1 (some (.int .i64 (a : Int))) none none = some (.slice (some ⟨5, a, none⟩) ((64 + q) - a) ((64 + q) - a)) ∧
     ((none : Option Value) = none ∧ effI (copyCore (s1b key b x h ++ [byR (List.replicate 64 0) (.row 1)]) 7 0 64 5 a ((64 + q) - a)) none 8 = some (.int .i64 (((64 + q) - a : Nat) : Int), s1b key b x h ++ [byR (blk64 x a) (.row 1)], .eff [7] 8)) ∧
     ((none : Option Value) = none ∧ effI (callE rpressE.ks rpressE.spec [.agg ⟨h.cells⟩, rowR 7 64, .int .i64 ((64 + q) : Nat), .bool true] (s1b key b x h ++ [byR (blk64 x a) (.row 1)])) (greads rpressE.ks [.agg ⟨h.cells⟩, rowR 7 64, .int .i64 ((64 + q) : Nat), .bool true]) 8 = some (.agg ⟨g.cells⟩, s1b key b x h ++ [byR (blk64 x a) (.row 1)], .load [7])) ∧
     RunsP (.loop c2) (slots 97 [(0, .int .i64 (z : Int)), (9, pR 6), (12, .slice none 0 0), (13, .int .i64 0)]) (s1b key b x g ++ [byR (blk64 x a) (.row 1)]) (.exit 2) (slots 97 [(12, rowR 8 z)]) (s2b key b x (blk64 x a) ((out8 g).take z) g) ∧ True) := by kernel_rfl


theorem zsource_u8 {n : Nat} (h : n ≤ 64) : zsource (.int .u8 0) (n : Int) = some ((List.replicate n (0 : Int)).length, (List.replicate n (0 : Int)).map (.int .u8)) := by
  unfold zsource
  show (if plain0 (.int .u8 0) = true ∧ 0 ≤ (n : Int) ∧ (n : Int) ≤ 140737488355328 then some ((n : Int).toNat, List.replicate (n : Int).toNat (Value.int .u8 0)) else none) = _
  rw [if_pos ⟨rfl, by omega, by omega⟩, Int.toNat_natCast]
  simp
theorem row_bytes {st : St} {i n : Nat} {l : List Int} {kd : RK} (h : st[i]? = some (byR l kd)) (hn : l.length = n) : Bys st (rowR i n) i 0 l := by
  subst hn; exact Bys.row h
theorem keyB_len {key : List Int} (h : key.length ≤ 32) (h0 : key.length ≠ 0) : (keyB key).length = 64 := by
  unfold keyB; rw [if_neg h0]; simp; omega
/-- The last press. -/
theorem last_press {st : St} {i len : Nat} {h : V8} {x : List Int} (hi : st[i]? = some (byR (blk64 x (64 * lastQ x)) (.row 1))) (hl : st.length = len) (n : Nat) (hn : x.length = n) :
    effI (callE rpressE.ks rpressE.spec [.agg ⟨(blks wordA h x (lastQ x)).cells⟩, rowR i 64, .int .i64 (n : Nat), .bool true] st) (greads rpressE.ks [.agg ⟨(blks wordA h x (lastQ x)).cells⟩, rowR i 64, .int .i64 (n : Nat), .bool true]) len = some (.agg ⟨(Dn wordA h x).cells⟩, st, .load [i]) := by
  subst hn
  have := owe_rpress (h := blks wordA h x (lastQ x)) (t := ((x.length : Nat) : Int)) (last := true) (row_bytes hi (blk64_length _ _)) (blk64_length _ _) hl
  rw [words_blk] at this
  exact this
theorem lastQ_le (x : List Int) : 64 * lastQ x ≤ x.length ∧ x.length - 64 * lastQ x ≤ 64 := by unfold lastQ; omega
theorem rof_plain {z : Nat} (h1 : 1 ≤ z) (h32 : z ≤ 32) {b : List Int} (hb : b.length ≤ 140737488355264) : AC Try.prog 12 (rargs z 0 b.length) (sO [] b) (.tuple #[rowR 3 z, .int .i64 0]) (sO [] b ++ [byR ((D wordA (h0r (z : Int) 0) b).take z) (.row 1)]) := by
  obtain ⟨q1, q2⟩ := lastQ_le b
  have hO := runH_ok rofEs_ok Try.func12 (by kernel_rfl) (n := 0) (a := rargs z 0 b.length) (s := sO [] b) (by
    rw [rofaP]
    refine ⟨lss_eq (by simp; omega), gtr_eq (by simp; omega), ⟨rfl, ?_⟩, loop1a [] b b (h0r (z : Int) 0) (z : Int) (by omega), cut_from q1, ⟨rfl, ?_⟩, ⟨rfl, last_press rfl rfl _ rfl⟩, ?_, trivial⟩
    · have := source_all (st := sO [] b) (i := 2) (c := b.length) (l := b) (kd := .ro) rfl
      rw [slR, this, append_nil (by omega)]
      rfl
    · rw [copy_zeros (x := b) (kd := .row 1) rfl rfl (by omega) q2]
      rfl
    · exact Runs.nilRow (j := 12) (z := 1) rfl (by decide) (loop2a [] b b _ _ h32)) (rofaR z b.length b b (64 * lastQ b) (blks wordA (h0r (z : Int) 0) b (lastQ b)) (Dn wordA (h0r (z : Int) 0) b))
  refine view_plain hO [0, 1, 2, 6] rfl rfl rfl ?_ rfl
  simp only [sO, List.cons_append, List.nil_append, List.all_cons, List.all_nil, byR, plain_u8, plainReg, Bool.and_true, Bool.and_self]
theorem rof_keyed {z : Nat} (h1 : 1 ≤ z) (h32 : z ≤ 32) {key b : List Int} (hk : key.length ≤ 32) (hk0 : key.length ≠ 0) (hb : b.length ≤ 140737488355264) : AC Try.prog 12 (rargs z key.length b.length) (sO key b) (.tuple #[rowR 3 z, .int .i64 0]) (sO key b ++ [byR ((D wordA (h0r (z : Int) key.length) (keyB key ++ b)).take z) (.row 1)]) := by
  obtain ⟨q1, q2⟩ := lastQ_le (keyB key ++ b)
  have hkb := keyB_len hk hk0
  have hxl : (keyB key ++ b).length = 64 + b.length := by rw [List.length_append, hkb]
  rw [hxl] at q1 q2
  have hO := runH_ok rofEs_ok Try.func12 (by kernel_rfl) (n := 0) (a := rargs z key.length b.length) (s := sO key b) (by
    rw [rofbP]
    refine ⟨lss_eq (by simp; omega), gtr_eq (by simp; omega), gtr_eq (by simp; omega), gtr_eq (by simp; omega), ⟨rfl, ?_⟩, sub_i64 (by omega) (by omega), ⟨rfl, ?_⟩, ⟨rfl, ?_⟩, ?_, cut_from q1, ⟨rfl, ?_⟩, ⟨rfl, last_press rfl rfl _ hxl⟩, ?_, trivial⟩
    · have := source_all (st := sO key b) (i := 1) (c := key.length) (l := key) (kd := .ro) rfl
      rw [slR, this, append_nil (by omega)]
      rfl
    · rw [zsource_u8 (by omega)]
      have := append_row (st := sO key b ++ [byR key (.row 1)]) (i := 3) (c := key.length) (a := key) (l := List.replicate (64 - key.length) 0) rfl (by simp; omega)
      rw [rowR, this]
      have e : key ++ List.replicate (64 - key.length) 0 = keyB key := by unfold keyB; rw [if_neg hk0]
      rw [e, List.length_replicate, show key.length + (64 - key.length) = 64 by omega]
      rfl
    · have hs := source_all (st := sO key b ++ [none] ++ [byR (keyB key) (.row 1)]) (i := 2) (c := b.length) (l := b) (kd := .ro) rfl
      have := append_row (st := sO key b ++ [none] ++ [byR (keyB key) (.row 1)]) (i := 4) (c := 64) (a := keyB key) (l := b) rfl (by rw [hkb]; omega)
      rw [hkb] at this
      rw [slR, hs, rowR, this]
      rfl
    · have := loop1b key b (keyB key ++ b) (h0r (z : Int) key.length) (z : Int) (by omega)
      rw [hxl] at this
      exact this
    · rw [copy_zeros (x := keyB key ++ b) (kd := .row 1) rfl rfl (by omega) q2]
      rfl
    · exact Runs.nilRow (j := 12) (z := 1) rfl (by decide) (loop2b key b (keyB key ++ b) _ _ h32)) (rofbR key (keyB key) key.length z b.length b (keyB key ++ b) (64 * lastQ (keyB key ++ b)) (blks wordA (h0r (z : Int) key.length) (keyB key ++ b) (lastQ (keyB key ++ b))) (Dn wordA (h0r (z : Int) key.length) (keyB key ++ b)))
  refine view_plain hO [0, 1, 2, 8] rfl rfl rfl ?_ rfl
  simp only [sO, List.cons_append, List.nil_append, List.all_cons, List.all_nil, byR, plain_u8, plainReg, Bool.and_true, Bool.and_self]
/-- What the document's Of tells: so many bytes of the digest. -/
def digR (size : Int) (key b : List Int) : List Int := (D wordA (h0 size key.length) (keyB key ++ b)).take size.toNat
theorem rof_fine {size : Int} {key b : List Int} (h : ¬ badN size key.length) (hb : b.length ≤ 140737488355264) : AC Try.prog 12 (argsO size key.length b.length) (sO key b) (.tuple #[rowR 3 size.toNat, .int .i64 0]) (sO key b ++ [byR (digR size key b) (.row 1)]) := by
  unfold badN at h
  obtain ⟨z, hz⟩ := Int.eq_ofNat_of_zero_le (show 0 ≤ size by omega)
  subst hz
  unfold digR
  rw [Int.toNat_natCast, ← h0r_eq _ (by omega)]
  by_cases h0 : key.length = 0
  · obtain rfl := List.length_eq_zero_iff.1 h0
    exact rof_plain (by omega) (by omega) hb
  · exact rof_keyed (by omega) (by omega) (by omega) h0 hb
def rofSpec (args : List Value) (st : St) : Option (Value × St) :=
  match args, st with
  | [.int .i64 size, .slice (some ⟨1, 0, none⟩) m d, .slice (some ⟨2, 0, none⟩) m' d'], [none, some ⟨xs, .ro⟩, some ⟨ys, .ro⟩] => match u8s xs, u8s ys with
    | some key, some b => if m = key.length ∧ d = key.length ∧ m' = b.length ∧ d' = b.length ∧ b.length ≤ 140737488355264 then
        (if badN size key.length then some (.tuple #[.slice none 0 0, .int .i64 2], sO key b)
         else some (.tuple #[rowR 3 size.toNat, .int .i64 0], sO key b ++ [byR (digR size key b) (.row 1)])) else none
    | _, _ => none
  | _, _ => none
noncomputable def rofE : Entry := ⟨12, [.val, .sl false, .sl false], rofSpec⟩
theorem rofE_ok : EntryOk Try.prog rofE := by
  refine ⟨fun a s r s' h => ?_, body_of Try.func12 (by kernel_rfl) (by kernel_rfl)⟩
  simp only [rofE] at h
  unfold rofSpec at h
  split at h
  · split at h
    · rename_i key b hk hb
      split at h
      · rename_i hc
        obtain ⟨rfl, rfl, rfl, rfl, h5⟩ := hc
        rw [u8s_spec hk, u8s_spec hb]
        split at h
        · rename_i hbad; cases h; exact rof_bad hbad
        · rename_i hbad; cases h; exact rof_fine hbad h5
      · cases h
    · cases h
  · cases h
theorem rofSpec_cells {size : Int} {key b : List Int} (hb : b.length ≤ 140737488355264) : rofSpec (argsO size key.length b.length) (sO key b) = if badN size key.length then some (.tuple #[.slice none 0 0, .int .i64 2], sO key b)
    else some (.tuple #[rowR 3 size.toNat, .int .i64 0], sO key b ++ [byR (digR size key b) (.row 1)]) := by
  simp only [rofSpec, argsO, slR, sO, byR, u8s_map]
  rw [if_pos ⟨trivial, trivial, trivial, trivial, hb⟩]
theorem owe_rof {st : St} {x y : Value} {i o j p len : Nat} {size : Int} {key b : List Int} (hx : Bys st x i o key) (hy : Bys st y j p b) (hb : b.length ≤ 140737488355264) (h : ¬ badN size key.length) (hl : st.length = len) :
    effI (callE rofE.ks rofE.spec [.int .i64 size, x, y] st) (greads rofE.ks [.int .i64 size, x, y]) len = some (.tuple #[rowR len size.toNat, .int .i64 0], st ++ [byR (digR size key b) (.row 1)], .eff [] len) := by
  subst hl
  have hbr : bares rofE.ks [.int .i64 size, x, y] = false := by simp only [rofE, bares, hx.bare, hy.bare, Bool.or_false]; rfl
  have hpk : picks 0 rofE.ks 0 [.int .i64 size, x, y] = some (argsO size key.length b.length, [none, some ⟨i, o, key.length, false⟩, some ⟨j, p, b.length, false⟩]) := by simp only [rofE, picks, hx.pick, hy.pick]; rfl
  refine owe_look hbr hpk rfl (gcall_look (sst := sO key b) (news := [byR (digR size key b) (.row 1)]) (res := .tuple #[rowR 3 size.toNat, .int .i64 0]) hbr hpk (smalls_none (hx.small (hy.small smalls_nil))) (by simp [disjFps, disj1]) ?_ (by simp) (mapO_plainReg ?_) rfl) (by simp)
  · simp only [rofE]
    rw [rofSpec_cells hb, if_neg h]
  · simp only [List.all_cons, List.all_nil, byR, plainReg, plain_u8, Bool.and_true]
theorem owe_rofBad {st : St} {x y : Value} {i o j p len : Nat} {size : Int} {key b : List Int} (hx : Bys st x i o key) (hy : Bys st y j p b) (hb : b.length ≤ 140737488355264) (h : badN size key.length) (hl : st.length = len) :
    effI (callE rofE.ks rofE.spec [.int .i64 size, x, y] st) (greads rofE.ks [.int .i64 size, x, y]) len = some (.tuple #[.slice none 0 0, .int .i64 2], st, .load [i, j]) := by
  have hbr : bares rofE.ks [.int .i64 size, x, y] = false := by simp only [rofE, bares, hx.bare, hy.bare, Bool.or_false]; rfl
  have hpk : picks 0 rofE.ks 0 [.int .i64 size, x, y] = some (argsO size key.length b.length, [none, some ⟨i, o, key.length, false⟩, some ⟨j, p, b.length, false⟩]) := by simp only [rofE, picks, hx.pick, hy.pick]; rfl
  refine owe_see hbr hpk rfl (gcall_see (sst := sO key b) hbr hpk (smalls_none (hx.small (hy.small smalls_nil))) (by simp [disjFps, disj1]) ?_ (by simp) rfl) hl
  simp only [rofE]
  rw [rofSpec_cells hb, if_pos h]

/-! bytes: both numbers are the same -/
theorem wrap_nat (n : Nat) : IntKind.u32.wrap (n : Int) = ((n % 4294967296 : Nat) : Int) := by rw [IntKind.wrap_u32]; omega
theorem ofInt_toNat {n : Nat} (h : n < 4294967296) : (BitVec.ofInt 32 (n : Int)).toNat = n := by
  rw [BitVec.ofInt_natCast, BitVec.toNat_ofNat]; omega
theorem or32_add {x y n : Nat} (hx : x < 2 ^ n) (h : x + y * 2 ^ n < 4294967296) : or32 (x : Int) ((y * 2 ^ n : Nat) : Int) = ((x + y * 2 ^ n : Nat) : Int) := by
  unfold or32
  rw [BitVec.toNat_or, ofInt_toNat (by omega), ofInt_toNat (by omega), Nat.or_comm, Nat.mul_comm, ← Nat.two_pow_add_eq_or_of_lt hx, wrap_nat, Nat.mul_comm]
  omega
theorem shl_of {a n : Nat} (h : a * 2 ^ n < 4294967296) : shl32 (a : Int) n = ((a * 2 ^ n : Nat) : Int) := by
  have ha : a < 4294967296 := Nat.lt_of_le_of_lt (Nat.le_mul_of_pos_right a (Nat.two_pow_pos n)) h
  unfold shl32
  rw [wrap_nat, Nat.mod_eq_of_lt ha]
  have : ((a : Int) * 2 ^ n) = ((a * 2 ^ n : Nat) : Int) := by simp
  rw [this, wrap_nat, Nat.mod_eq_of_lt h]
theorem wordO_nat {a b c d : Nat} (ha : a < 256) (hb : b < 256) (hc : c < 256) (hd : d < 256) : wordO (a : Int) b c d = ((a + b * 2 ^ 8 + c * 2 ^ 16 + d * 2 ^ 24 : Nat) : Int) := by
  unfold wordO
  rw [shl_of (n := 0) (by omega), shl_of (n := 8) (by omega), shl_of (n := 16) (by omega), shl_of (n := 24) (by omega),
    show or32 0 ((a * 2 ^ 0 : Nat) : Int) = (a : Int) from by
      have := or32_add (x := 0) (y := a) (n := 0) (by decide) (by omega)
      simpa using this, or32_add (x := a) (by omega) (by omega), or32_add (by omega) (by omega), or32_add (by omega) (by omega)]
theorem wordA_nat {a b c d : Nat} (ha : a < 256) (hb : b < 256) (hc : c < 256) (hd : d < 256) : wordA (a : Int) b c d = ((a + b * 2 ^ 8 + c * 2 ^ 16 + d * 2 ^ 24 : Nat) : Int) := by
  unfold wordA add32
  rw [shl_of (n := 8) (by omega), shl_of (n := 16) (by omega), shl_of (n := 24) (by omega)]
  simp only [wrap_nat, ← Int.natCast_add]
  omega
/-- A byte. -/
def B8 (x : Int) : Prop := 0 ≤ x ∧ x ≤ 255
theorem wordO_eq {a b c d : Int} (ha : B8 a) (hb : B8 b) (hc : B8 c) (hd : B8 d) : wordO a b c d = wordA a b c d := by
  obtain ⟨a, rfl⟩ := Int.eq_ofNat_of_zero_le ha.1
  obtain ⟨b, rfl⟩ := Int.eq_ofNat_of_zero_le hb.1
  obtain ⟨c, rfl⟩ := Int.eq_ofNat_of_zero_le hc.1
  obtain ⟨d, rfl⟩ := Int.eq_ofNat_of_zero_le hd.1
  have := ha.2; have := hb.2; have := hc.2; have := hd.2
  rw [wordO_nat (by omega) (by omega) (by omega) (by omega), wordA_nat (by omega) (by omega) (by omega) (by omega)]
theorem words_B8 {B : Nat → Int} (h : ∀ i, B8 (B i)) : words wordO B = words wordA B := by
  unfold words
  simp only [wordO_eq (h _) (h _) (h _) (h _)]
theorem getD_B8 {l : List Int} (h : ∀ x ∈ l, B8 x) (i : Nat) : B8 (l.getD i 0) := by
  by_cases hi : i < l.length
  · rw [List.getD_eq_getElem?_getD, List.getElem?_eq_getElem hi]
    exact h _ (List.getElem_mem hi)
  · rw [getD_out (by omega)]; exact ⟨by decide, by decide⟩
theorem blks_B8 {h : V8} {x : List Int} (hx : ∀ y ∈ x, B8 y) : ∀ q, blks wordO h x q = blks wordA h x q := by
  intro q
  induction q with
  | zero => rfl
  | succ q ih => rw [blks_succ, blks_succ, ih, words_B8 fun i => getD_B8 hx _]
theorem D_B8 {h : V8} {x : List Int} (hx : ∀ y ∈ x, B8 y) : D wordO h x = D wordA h x := by
  unfold D Dn
  rw [blks_B8 hx, words_B8 fun i => getD_B8 hx _]
theorem keyB_B8 {key : List Int} (hk : ∀ y ∈ key, B8 y) : ∀ y ∈ keyB key, B8 y := by
  intro y hy
  unfold keyB at hy
  split at hy
  · cases hy
  · rcases List.mem_append.1 hy with h | h
    · exact hk y h
    · rw [(List.mem_replicate.1 h).2]; exact ⟨by decide, by decide⟩
/-- The program's digest and the document's are the same, of bytes. -/
theorem dig_eq {size : Int} {key b : List Int} (hk : key.length ≤ 32) (hb : b.length ≤ 2 ^ 59) (hK : ∀ y ∈ key, B8 y) (hB : ∀ y ∈ b, B8 y) : (digL size key b).take size.toNat = digR size key b := by
  unfold digR
  rw [digL_D hk hb, D_B8]
  intro y hy
  rcases List.mem_append.1 hy with h | h
  · exact keyB_B8 hK y h
  · exact hB y h

end Go.Proofs.Ytggkdjhgknghcaa.Bl
