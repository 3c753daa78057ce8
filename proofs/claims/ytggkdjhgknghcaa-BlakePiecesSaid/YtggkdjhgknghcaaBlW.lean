/- Write of blake: what it comes to. Without conditions. -/
import Derived.Test.YtggkdjhgknghcaaBlA
namespace Go.Proofs.Ytggkdjhgknghcaa.Bl
open Am Run IntWalk

/-! copying, clearing -/
def copyCore (st : St) (i off dLen j o sLen : Nat) : Option (Value × St × List Nat) :=
  match rd st j o (Nat.min sLen dLen * 1) with
  | some vs => match wr st i off vs with
    | some st' => some (.int .i64 (Nat.min sLen dLen : Nat), st', [i])
    | none => none
  | none => none
def clearCore (st : St) (i off n : Nat) : Option (Value × St × List Nat) :=
  match wr st i off (List.replicate n (.int .u8 0)) with
  | some st' => some (.tuple #[], st', [i])
  | none => none
theorem splice_get {l vs : List Value} {k : Nat} (h : k + vs.length ≤ l.length) (i : Nat) : (splice l k vs)[i]? = if k ≤ i ∧ i < k + vs.length then vs[i - k]? else l[i]? := by
  unfold splice
  split
  · rename_i v
    rw [List.getElem?_set]
    simp only [List.length_cons, List.length_nil] at h ⊢
    by_cases e : k = i
    · subst e; rw [if_pos rfl, if_pos (by omega), if_pos (by omega)]; simp
    · rw [if_neg e, if_neg (by omega)]
  · rw [List.getElem?_append, List.getElem?_append]
    simp only [List.length_append, List.length_take, List.getElem?_take, List.getElem?_drop]
    by_cases h1 : i < k
    · rw [if_pos (by omega), if_pos (by omega), if_pos h1, if_neg (by omega)]
    · by_cases h2 : i < k + vs.length
      · rw [if_pos (by omega), if_neg (by omega), if_pos (by omega)]; congr 1; omega
      · rw [if_neg (by omega), if_neg (by omega)]; congr 1; omega
/-- B, but for k places from n on. -/
def put (B : Nat → Int) (n k : Nat) (f : Nat → Int) : Nat → Int := fun i => if n ≤ i ∧ i < n + k then f (i - n) else B i
theorem u8N_get {n : Nat} {K : Nat → Int} {i : Nat} (h : i < n) : (u8N n K)[i]? = some (.int .u8 (K i)) := by
  unfold u8N; rw [List.getElem?_map, List.getElem?_range h]; rfl
theorem u8N_length (n : Nat) (K : Nat → Int) : (u8N n K).length = n := by simp [u8N]
theorem mid_get {pre X post : List Value} (hp : pre.length = 9) (hx : X.length = 64) (i : Nat) : (pre ++ (X ++ post))[i]? = if i < 9 then pre[i]? else if i < 73 then X[i - 9]? else post[i - 73]? := by
  rw [List.getElem?_append, List.getElem?_append, hp, hx]
  by_cases h1 : i < 9
  · rw [if_pos h1, if_pos h1]
  · rw [if_neg h1, if_neg h1]
    by_cases h2 : i < 73
    · rw [if_pos (by omega), if_pos h2]
    · rw [if_neg (by omega), if_neg h2, Nat.sub_sub]
theorem cells_splice (H : HS) {n : Nat} {l : List Int} (h : n + l.length ≤ 64) : splice H.cells (9 + n) (l.map (.int .u8)) = { H with blk := put H.blk n l.length (fun i => l.getD i 0) : HS }.cells := by
  have e : ∀ B : Nat → Int, { H with blk := B : HS }.cells = (.int .i64 H.size :: H.h.cells) ++ (u8N 64 B ++ [.int .i64 H.n, .int .u64 H.t]) := fun B => rfl
  have e0 : H.cells = (.int .i64 H.size :: H.h.cells) ++ (u8N 64 H.blk ++ [.int .i64 H.n, .int .u64 H.t]) := rfl
  have h9 : (Value.int .i64 H.size :: H.h.cells).length = 9 := rfl
  rw [e0, e]
  apply List.ext_getElem?
  intro i
  rw [splice_get (by simp only [List.length_append, h9, u8N_length, List.length_map, List.length_cons, List.length_nil]; omega), mid_get h9 (u8N_length _ _), mid_get h9 (u8N_length _ _)]
  simp only [List.length_map]
  by_cases h1 : i < 9
  · rw [if_neg (by omega), if_pos h1, if_pos h1]
  · by_cases h2 : i < 73
    · rw [if_neg h1, if_neg h1, if_pos h2, if_pos h2, u8N_get (by omega), u8N_get (by omega)]
      by_cases h3 : n ≤ i - 9 ∧ i - 9 < n + l.length
      · rw [if_pos (by omega), List.getElem?_map, getD_get (by omega)]
        simp only [put, if_pos h3, Option.map_some]
        rw [show i - (9 + n) = i - 9 - n from by omega]
      · rw [if_neg (by omega)]
        simp only [put, if_neg h3]
    · rw [if_neg (by omega), if_neg h1, if_neg h1, if_neg h2, if_neg h2]
theorem hcells_length (H : HS) : H.cells.length = 75 := rfl
theorem wr_hash {st : St} {p n : Nat} {H : HS} {l : List Int} (hp : st[p]? = some (hR H)) (h : n + l.length ≤ 64) : wr st p (9 + n) (l.map (.int .u8)) = some (st.set p (hR { H with blk := put H.blk n l.length (fun i => l.getD i 0) })) := by
  unfold wr
  rw [hp]
  simp only [hR]
  rw [if_pos ⟨by simp, by rw [hcells_length]; simp; omega, one_u8 l⟩, cells_splice H h]
theorem copy_hash {st : St} {p n j o r k : Nat} {H : HS} {b : List Int} {kd : RK} (hp : st[p]? = some (hR H)) (hj : st[j]? = some (byR b kd)) (hb : o + r ≤ b.length) (hn : n ≤ 64) (hk : k = min r (64 - n)) :
    copyCore st p (9 + n) (64 - n) j o r = some (.int .i64 (k : Int), st.set p (hR { H with blk := put H.blk n k (fun i => (b.drop o).getD i 0) }), [p]) := by
  have hm : Nat.min r (64 - n) = k := hk.symm
  unfold copyCore
  rw [hm, rd_u8 hj (by omega)]
  have hl : ((b.drop o).take (k * 1)).length = k := by simp; omega
  simp only
  rw [wr_hash hp (by rw [hl]; omega), hl]
  simp only
  congr 3
  have : put H.blk n k (fun i => ((b.drop o).take (k * 1)).getD i 0) = put H.blk n k (fun i => (b.drop o).getD i 0) := by
    funext i
    unfold put
    split
    · simp only [List.getD_eq_getElem?_getD, List.getElem?_take, Nat.mul_one]
      rw [if_pos (by omega)]
    · rfl
  rw [this]
theorem clear_hash {st : St} {p n : Nat} {H : HS} (hp : st[p]? = some (hR H)) (hn : n ≤ 64) : clearCore st p (9 + n) (64 - n) = some (.tuple #[], st.set p (hR { H with blk := put H.blk n (64 - n) (fun _ => 0) }), [p]) := by
  have e : List.replicate (64 - n) (Value.int .u8 0) = (List.replicate (64 - n) (0 : Int)).map (.int .u8) := by simp
  unfold clearCore
  rw [e, wr_hash hp (by simp; omega)]
  simp only [List.length_replicate]
  congr 3
  have : put H.blk n (64 - n) (fun i => (List.replicate (64 - n) (0 : Int)).getD i 0) = put H.blk n (64 - n) (fun _ => 0) := by
    funext i
    unfold put
    split
    · show (List.replicate (64 - n) (0 : Int)).getD (i - n) 0 = 0
      rw [List.getD_eq_getElem?_getD, List.getElem?_replicate]; split <;> rfl
    · rfl
  rw [this]

/-! what Write comes to -/
def fill1 (H : HS) : HS := { press H 64 false with n := 0 }
def take1 (H : HS) (n k : Nat) (l : List Int) : HS := { H with blk := put H.blk n k (fun i => l.getD i 0), n := ((n + k : Nat) : Int) }
def absorbF : Nat → HS → List Int → HS
  | 0, H, _ => H
  | f + 1, H, l => if l.length = 0 then H else
    if H.n = 64 then absorbF f (take1 (fill1 H) 0 (min l.length 64) l) (l.drop (min l.length 64))
    else absorbF f (take1 H H.n.toNat (min l.length (64 - H.n.toNat)) l) (l.drop (min l.length (64 - H.n.toNat)))
def absorb (H : HS) (l : List Int) : HS := absorbF (l.length + 1) H l

noncomputable def cW : Code := loopOf 1 (body Try.f16)
def tW (o r : Nat) : List Value := slots 48 [(0, pR 0), (1, .slice (some ⟨1, o, none⟩) r r)]
def hW (o r n k : Nat) (H : HS) : Hint := ⟨fun q i => match q, i with
  | 1, 2 => some (.pure (.bool true))
  | 2, 4 => some (.pure (.bool false))
  | 5, 7 => some (.pure (.slice (some ⟨0, 9 + n, none⟩) (64 - n) (64 - n)))
  | 5, 9 => some (.eff (.int .i64 (k : Int)) (fun s => s.set 0 (hR H)) [0])
  | 6, 5 => some (.pure (.int .i64 ((n + k : Nat) : Int)))
  | 7, 2 => some (.pure (.slice (some ⟨1, o + k, none⟩) (r - k) (r - k)))
  | _, _ => none, fun _ => none⟩
def hWf (o r k : Nat) (H : HS) : Hint := ⟨fun q i => match q, i with
  | 1, 2 => some (.pure (.bool true))
  | 5, 7 => some (.pure (.slice (some ⟨0, 9 + 0, none⟩) (64 - 0) (64 - 0)))
  | 5, 9 => some (.eff (.int .i64 (k : Int)) (fun s => s.set 0 (hR H)) [0])
  | 6, 5 => some (.pure (.int .i64 ((0 + k : Nat) : Int)))
  | 7, 2 => some (.pure (.slice (some ⟨1, o + k, none⟩) (r - k) (r - k)))
  | _, _ => none, fun _ => none⟩
def hW0 : Hint := ⟨fun q i => match q, i with
  | 1, 2 => some (.pure (.bool false))
  | _, _ => none, fun _ => none⟩
noncomputable def writeEs : List Entry := [pressE]
theorem writeEs_ok : ∀ e ∈ writeEs, EntryOk Try.prog e := es1 pressE_ok
def wb1 (H : HS) (n k : Nat) (l : List Int) : HS := { H with blk := put H.blk n k (fun i => l.getD i 0) }
theorem stepW (b l : List Int) (s t : Int) (h : V8) (B : Nat → Int) (o r n k : Nat) : stepV writeEs (hW o r n k (wb1 ⟨s, h, B, (n : Int), t⟩ n k l)) 0 cW [0, 1] [] [0, 1] (tW o r) [hR ⟨s, h, B, (n : Int), t⟩, byR b .ro] =
    some (.normal, tW (o + k) (r - k), [hR (take1 ⟨s, h, B, (n : Int), t⟩ n k l), byR b .ro]) := by kernel_rfl
theorem stepWP (b l : List Int) (s t : Int) (h : V8) (B : Nat → Int) (o r n k : Nat) : stepP writeEs (hW o r n k (wb1 ⟨s, h, B, (n : Int), t⟩ n k l)) 0 cW (tW o r) [hR ⟨s, h, B, (n : Int), t⟩, byR b .ro] =
    (aint .gtr .i64 (r : Int) 0 = some (.bool true) ∧ aint .eql .i64 (n : Int) 64 = some (.bool false) ∧ cut 0 9 64 64 1 (some (.int .i64 (n : Int))) none none = some (.slice (some ⟨0, 9 + n, none⟩) (64 - n) (64 - n)) ∧
     ((none : Option Value) = none ∧ effI (copyCore [hR ⟨s, h, B, (n : Int), t⟩, byR b .ro] 0 (9 + n) (64 - n) 1 o r) none 2 = some (.int .i64 (k : Int), [hR (wb1 ⟨s, h, B, (n : Int), t⟩ n k l), byR b .ro], .eff [0] 2)) ∧
     aint .add .i64 (n : Int) (k : Int) = some (.int .i64 ((n + k : Nat) : Int)) ∧ cut 1 o r r 1 (some (.int .i64 (k : Int))) none none = some (.slice (some ⟨1, o + k, none⟩) (r - k) (r - k)) ∧ True) := by kernel_rfl
theorem stepWf (b l : List Int) (s t : Int) (h : V8) (B : Nat → Int) (o r k : Nat) : stepV writeEs (hWf o r k (wb1 (fill1 ⟨s, h, B, 64, t⟩) 0 k l)) 0 cW [0, 1] [] [0, 1] (tW o r) [hR ⟨s, h, B, 64, t⟩, byR b .ro] =
    some (.normal, tW (o + k) (r - k), [hR (take1 (fill1 ⟨s, h, B, 64, t⟩) 0 k l), byR b .ro]) := by kernel_rfl
theorem stepWfP (b l : List Int) (s t : Int) (h : V8) (B : Nat → Int) (o r k : Nat) : stepP writeEs (hWf o r k (wb1 (fill1 ⟨s, h, B, 64, t⟩) 0 k l)) 0 cW (tW o r) [hR ⟨s, h, B, 64, t⟩, byR b .ro] =
    (aint .gtr .i64 (r : Int) 0 = some (.bool true) ∧ cut 0 9 64 64 1 (some (.int .i64 0)) none none = some (.slice (some ⟨0, 9 + 0, none⟩) (64 - 0) (64 - 0)) ∧
     ((none : Option Value) = none ∧ effI (copyCore [hR (fill1 ⟨s, h, B, 64, t⟩), byR b .ro] 0 (9 + 0) (64 - 0) 1 o r) none 2 = some (.int .i64 (k : Int), [hR (wb1 (fill1 ⟨s, h, B, 64, t⟩) 0 k l), byR b .ro], .eff [0] 2)) ∧
     aint .add .i64 0 (k : Int) = some (.int .i64 ((0 + k : Nat) : Int)) ∧ cut 1 o r r 1 (some (.int .i64 (k : Int))) none none = some (.slice (some ⟨1, o + k, none⟩) (r - k) (r - k)) ∧ True) := by kernel_rfl
theorem stopW (b : List Int) (H : HS) (o r : Nat) : stepV writeEs hW0 0 cW [0, 1] [] [] (tW o r) [hR H, byR b .ro] = some (.exit 0, slots 48 [], [hR H, byR b .ro]) := by kernel_rfl
theorem stopWP (b : List Int) (H : HS) (o r : Nat) : stepP writeEs hW0 0 cW (tW o r) [hR H, byR b .ro] = (aint .gtr .i64 (r : Int) 0 = some (.bool false) ∧ True) := by kernel_rfl
theorem plW (H : HS) (b : List Int) : plainBut [] 0 [hR H, byR b .ro] = true := by
  have h1 : plainReg (hR H) = true := rfl
  simp only [plainBut, byR, plainReg_u8, h1, Bool.or_true, Bool.and_true]
/-- So many bytes wait. -/
def Waits (H : HS) : Prop := ∃ n : Nat, H.n = (n : Int) ∧ n ≤ 64
theorem gtr_eq {k : IntKind} {a b : Int} {t : Bool} (h : decide (a > b) = t) : aint .gtr k a b = some (.bool t) := by simp [aint, h]
theorem cut_in {i off n a : Nat} (h : a ≤ n) : cut i off n n 1 (some (.int .i64 (a : Int))) none none = some (.slice (some ⟨i, off + a, none⟩) (n - a) (n - a)) := by
  unfold cut
  simp only [Option.isSome_none, Bool.false_and, Bool.false_eq_true, if_false, bound?, Nat.le_refl, if_true]
  rw [if_pos ⟨by omega, by omega⟩]
  simp
theorem loopW (b : List Int) (hb : b.length ≤ 2 ^ 60) : ∀ (f : Nat) (H : HS) (o : Nat), Waits H → o ≤ b.length → b.length - o < f →
    ∃ m, LoopRuns Try.prog cW m (tW o (b.length - o)) [hR H, byR b .ro] (.exit 0) (slots 48 []) [hR (absorbF f H (b.drop o)), byR b .ro] := by
  intro f
  induction f with
  | zero => intro H o _ _ h; omega
  | succ f ih =>
    intro H o hw ho hf
    have hdl : (b.drop o).length = b.length - o := by simp
    unfold absorbF
    by_cases h0 : b.length - o = 0
    · rw [if_pos (by rw [hdl]; exact h0)]
      refine ⟨1, LoopRuns.stop (step_ok writeEs_ok ?_ (stopW b H o _) (plW _ _)) (by simp)⟩
      rw [stopWP]
      exact ⟨gtr_eq (by simp; omega), trivial⟩
    · rw [if_neg (by rw [hdl]; exact h0)]
      obtain ⟨s, h, B, n', t⟩ := H
      obtain ⟨n, hn, hn64⟩ := hw
      simp only at hn
      subst hn
      by_cases h64 : n = 64
      · subst h64
        rw [show ((64 : Nat) : Int) = 64 from rfl]
        rw [if_pos (show (⟨s, h, B, 64, t⟩ : HS).n = 64 from rfl), hdl]
        obtain ⟨k, hk⟩ : ∃ k, k = min (b.length - o) 64 := ⟨_, rfl⟩
        rw [← hk, List.drop_drop]
        obtain ⟨m, hm⟩ := ih (take1 (fill1 ⟨s, h, B, 64, t⟩) 0 k (b.drop o)) (o + k) ⟨0 + k, rfl, by omega⟩ (by omega) (by omega)
        refine ⟨m + 1, LoopRuns.step (step_ok writeEs_ok ?_ (stepWf b (b.drop o) s t h B o (b.length - o) k) (plW _ _)) ?_⟩
        · rw [stepWfP]
          refine ⟨gtr_eq (by simp; omega), rfl, ⟨rfl, ?_⟩, add_i64 (by omega) (by omega), cut_in (by omega), trivial⟩
          rw [copy_hash (p := 0) (n := 0) (H := fill1 ⟨s, h, B, 64, t⟩) (j := 1) (b := b) (kd := .ro) (o := o) (r := b.length - o) (k := k) rfl rfl (by omega) (by omega) (by omega)]
          rfl
        · rw [show b.length - (o + k) = b.length - o - k from by omega] at hm
          exact hm
      · rw [if_neg (show ¬ (⟨s, h, B, (n : Int), t⟩ : HS).n = 64 by simp; omega), hdl]
        simp only [Int.toNat_natCast]
        obtain ⟨k, hk⟩ : ∃ k, k = min (b.length - o) (64 - n) := ⟨_, rfl⟩
        rw [← hk, List.drop_drop]
        obtain ⟨m, hm⟩ := ih (take1 ⟨s, h, B, (n : Int), t⟩ n k (b.drop o)) (o + k) ⟨n + k, rfl, by omega⟩ (by omega) (by omega)
        refine ⟨m + 1, LoopRuns.step (step_ok writeEs_ok ?_ (stepW b (b.drop o) s t h B o (b.length - o) n k) (plW _ _)) ?_⟩
        · rw [stepWP]
          refine ⟨gtr_eq (by simp; omega), eql_eq (by simp; omega), cut_in (by omega), ⟨rfl, ?_⟩, add_i64 (by omega) (by omega), cut_in (by omega), trivial⟩
          rw [copy_hash (p := 0) (n := n) (H := ⟨s, h, B, (n : Int), t⟩) (j := 1) (b := b) (kd := .ro) (o := o) (r := b.length - o) (k := k) rfl rfl (by omega) (by omega) (by omega)]
          rfl
        · rw [show b.length - (o + k) = b.length - o - k from by omega] at hm
          exact hm
def hWw (b : List Int) (H : HS) : Hint := ⟨fun q i => match q, i with
  | 0, 7 => some (.pure (.bool false))
  | _, _ => none, fun r => if r = 1 then some ([0, 1], fun _ _ => some (.exit 0, slots 48 [], [hR H, byR b .ro])) else none⟩
theorem writeR (b : List Int) (H H' : HS) (n : Nat) : goNH writeEs (hWw b H') 0 Try.f16 [pR 0, slR 1 n] [hR H, byR b .ro] = some (.tuple #[], [hR H', byR b .ro]) := by kernel_rfl
theorem writeP (b : List Int) (H H' : HS) (n : Nat) : owes writeEs (hWw b H') 0 Try.f16 [pR 0, slR 1 n] [hR H, byR b .ro] =
    (aint .eql .i64 H.size 0 = some (.bool false) ∧ RunsP (.loop cW) (tW 0 n) [hR H, byR b .ro] (.exit 0) (slots 48 []) [hR H', byR b .ro] ∧ True) := by kernel_rfl
theorem write_ac {b : List Int} {H : HS} (hs : H.size ≠ 0) (hw : Waits H) (hb : b.length ≤ 2 ^ 47) : AC Try.prog 16 [pR 0, slR 1 b.length] [hR H, byR b .ro] (.tuple #[]) [hR (absorb H b), byR b .ro] := by
  refine runNH_ok writeEs_ok Try.func16 (by kernel_rfl) ?_ (writeR b H (absorb H b) b.length) rfl ?_ rfl
  · rw [writeP]
    obtain ⟨m, hm⟩ := loopW b (by omega) (b.length + 1) H 0 hw (by omega) (by omega)
    rw [List.drop_zero, Nat.sub_zero] at hm
    exact ⟨eql_eq (by simpa using hs), hm.runs, trivial⟩
  · have h1 : plainReg (hR H) = true := rfl
    have h2 : plainReg (hR (absorb H b)) = true := rfl
    simp only [List.all_cons, List.all_nil, byR, plainReg_u8, h2, Bool.and_true, Bool.and_self]
def writeSpec0 (args : List Value) (st : St) : Option (Value × St) :=
  match args, st with
  | [.pointer (some ⟨0, 0, none⟩), .slice (some ⟨1, 0, none⟩) m d], [some ⟨cs, .rw⟩, some ⟨xs, .ro⟩] => match hOf cs, u8s xs with
    | some H, some b => if m = b.length ∧ d = b.length ∧ b.length ≤ 2 ^ 47 ∧ H.size ≠ 0 ∧ 0 ≤ H.n ∧ H.n ≤ 64 then some (.tuple #[], [hR (absorb H b), byR b .ro]) else none
    | _, _ => none
  | _, _ => none
/-- What the contract tells; where it tells nothing: the body's own run. -/
noncomputable def orRun (es : List Entry) (n : Nat) (fn : Func) (spec : List Value → St → Option (Value × St)) (args : List Value) (st : St) : Option (Value × St) :=
  match spec args st with
  | some r => some r
  | none => goC es n fn args st
theorem orRun_ok {es : List Entry} {n : Nat} {f : FuncId} {fn : Func} {spec : List Value → St → Option (Value × St)} {ks : List AK} (hes : ∀ e ∈ es, EntryOk Try.prog e) (hf : Try.prog.funcs[f]? = some fn) (hn : (fn.name == "runtime.NumGoroutine") = false) (hb : fn.body.isNone = false)
    (h : ∀ a s r s', spec a s = some (r, s') → AC Try.prog f a s r s') : EntryOk Try.prog ⟨f, ks, orRun es n fn spec⟩ := by
  refine ⟨fun a s r s' hh => ?_, body_of hf hn hb⟩
  simp only [orRun] at hh
  split at hh
  · rename_i q hq
    cases hh
    exact h _ _ _ _ hq
  · exact runC_ok hes hf hb hh
noncomputable def writeE : Entry := ⟨16, [.ptr 75 true, .sl false], orRun [pressE] 2 Try.f16 writeSpec0⟩
theorem writeE_ok : EntryOk Try.prog writeE := by
  refine orRun_ok writeEs_ok Try.func16 (by kernel_rfl) (by kernel_rfl) fun a s r s' h => ?_
  unfold writeSpec0 at h
  split at h
  · split at h
    · rename_i H b hH hb
      split at h
      · rename_i hc
        obtain ⟨rfl, rfl, h3, h4, h5, h6⟩ := hc
        cases h
        rw [hOf_spec hH, u8s_spec hb]
        exact write_ac h4 ⟨H.n.toNat, by omega, by omega⟩ h3
      · cases h
    · cases h
  · cases h
end Go.Proofs.Ytggkdjhgknghcaa.Bl
