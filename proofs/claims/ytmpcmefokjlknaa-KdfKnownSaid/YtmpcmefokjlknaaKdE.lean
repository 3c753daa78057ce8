/- The document's Expand: what it comes to; calls of both. Without conditions. -/
import Derived.Test.YtmpcmefokjlknaaKdD
namespace Go.Proofs.Ytmpcmefokjlknaa.Kd
open Am Run IntWalk Bl Byt

noncomputable def cY : Code := loopOf 7 (body Try.f19)
noncomputable def yEs : List Entry := [rhmacE]
theorem yEs_ok : ∀ e ∈ yEs, EntryOk Try.prog e := es1 rhmacE_ok
def tY (p z : Nat) (out last : Value) (k : Nat) : List Value := slots 44 [(1, slR 1 p), (2, .int .i64 (z : Int)), (3, pR 3), (8, out), (9, last), (10, .int .i64 (k : Int))]
def sY0 (Z : Nat → Int) (info : List Int) : St := [none, byR info .ro, none, byR (k32 Z) .rw]
def w8 (k : Nat) : Int := IntKind.u8.wrap (k : Int)
/-! the first round -/
def hY0 (p k : Nat) (info x : List Int) (g : V8) : Hint := ⟨fun r i => match r, i with
  | 7, 3 => some (.pure (.bool true))
  | 11, 2 => some (.eff (rowR 5 p) (fun s => s.set 4 none ++ [byR info (.row 1)]) [4])
  | 12, 4 => some (.eff (rowR 7 (p + 1)) (fun s => s.set 5 none ++ [byR x (.row 1)]) [5])
  | 13, 2 => some (.read (ag g) [3, 7])
  | 8, 1 => some (.pure (.int .i64 ((k + 1 : Nat) : Int)))
  | _, _ => none, fun _ => none⟩
def sC1 (Z : Nat → Int) (info : List Int) : St := sY0 Z info ++ [byR [] (.row 1)]
def sC2 (Z : Nat → Int) (info : List Int) (k : Nat) : St := sY0 Z info ++ [none] ++ [byR info (.row 1)] ++ [byR [w8 k] (.row 1)]
def sC3 (Z : Nat → Int) (info : List Int) (k : Nat) (x : List Int) : St := sY0 Z info ++ [none] ++ [none] ++ [byR [w8 k] (.row 1)] ++ [byR x (.row 1)]
theorem stepY0 (Z : Nat → Int) (info x : List Int) (p z k : Nat) (g : V8) : stepV yEs (hY0 p k info x g) 0 cY [0, 1, 2, 3, 9, 8] [] [1, 2, 3, 8, 9, 10] (tY p z (.slice none 0 0) (.slice none 0 0) k) (sY0 Z info) = some (.normal, tY p z (rowR 4 32) (slR 5 32) (k + 1), sX Z info (out8 g) g) := by kernel_rfl
theorem stepY0P (Z : Nat → Int) (info x : List Int) (p z k : Nat) (g : V8) : stepP yEs (hY0 p k info x g) 0 cY (tY p z (.slice none 0 0) (.slice none 0 0) k) (sY0 Z info) =
    (aint .lss .i64 0 (z : Int) = some (.bool true) ∧
     ((none : Option Value) = none ∧ effI (appendCore (sC1 Z info) 1 1 (.int .u8 0) (rowR 4 0) (source (sC1 Z info) 1 (slR 1 p))) none 5 = some (rowR 5 p, sY0 Z info ++ [none] ++ [byR info (.row 1)], .eff [4] 5)) ∧
     ((none : Option Value) = none ∧ effI (appendCore (sC2 Z info k) 1 1 (.int .u8 0) (rowR 5 p) (source (sC2 Z info k) 1 (rowR 6 1))) none 7 = some (rowR 7 (p + 1), sC3 Z info k x, .eff [5] 7)) ∧
     ((none : Option Value) = none ∧ effI (callE [.sl false, .sl false] (h2SpecR (hmacV wordA)) [slR 3 32, rowR 7 (p + 1)] (sC3 Z info k x)) (greads [.sl false, .sl false] [slR 3 32, rowR 7 (p + 1)]) 8 = some (ag g, sC3 Z info k x, .load [3, 7])) ∧
     aint .add .i64 (k : Int) 1 = some (.int .i64 ((k + 1 : Nat) : Int)) ∧ True) := by kernel_rfl
/-! the rounds behind it -/
def hY (p q k : Nat) (x1 x o' : List Int) (g : V8) : Hint := ⟨fun r i => match r, i with
  | 7, 3 => some (.pure (.bool true))
  | 11, 2 => some (.eff (rowR 7 (32 + p)) (fun s => s.set 6 none ++ [byR x1 (.row 1)]) [6])
  | 12, 4 => some (.eff (rowR 9 (32 + p + 1)) (fun s => s.set 7 none ++ [byR x (.row 1)]) [7])
  | 13, 2 => some (.read (ag g) [3, 9])
  | 15, 2 => some (.eff (rowR 11 (q + 32)) (fun s => s.set 4 none ++ [byR o' (.row 1)]) [4])
  | 8, 1 => some (.pure (.int .i64 ((k + 1 : Nat) : Int)))
  | _, _ => none, fun _ => none⟩
def sD1 (Z : Nat → Int) (info o : List Int) (h : V8) : St := sX Z info o h ++ [byR (out8 h) (.row 1)]
def sD2 (Z : Nat → Int) (info o : List Int) (h : V8) (k : Nat) (x1 : List Int) : St := sX Z info o h ++ [none] ++ [byR x1 (.row 1)] ++ [byR [w8 k] (.row 1)]
def sD3 (Z : Nat → Int) (info o : List Int) (h : V8) (k : Nat) (x : List Int) : St := sX Z info o h ++ [none] ++ [none] ++ [byR [w8 k] (.row 1)] ++ [byR x (.row 1)]
def sD4 (Z : Nat → Int) (info o : List Int) (h : V8) (k : Nat) (x : List Int) (g : V8) : St := sD3 Z info o h k x ++ [byR (out8 g) .rw]
theorem stepY (Z : Nat → Int) (info o x1 x o' : List Int) (p z q k : Nat) (h g : V8) : stepV2 4 yEs (hY p q k x1 x o' g) 0 cY [0, 1, 2, 3, 11, 10] [] [1, 2, 3, 8, 9, 10] (tY p z (rowR 4 q) (slR 5 32) k) (sX Z info o h) = some (.normal, tY p z (rowR 4 (q + 32)) (slR 5 32) (k + 1), sX Z info o' g) := by kernel_rfl
theorem stepYP (Z : Nat → Int) (info o x1 x o' : List Int) (p z q k : Nat) (h g : V8) : stepP yEs (hY p q k x1 x o' g) 0 cY (tY p z (rowR 4 q) (slR 5 32) k) (sX Z info o h) =
    (aint .lss .i64 (q : Int) (z : Int) = some (.bool true) ∧
     ((none : Option Value) = none ∧ effI (appendCore (sD1 Z info o h) 1 1 (.int .u8 0) (rowR 6 32) (source (sD1 Z info o h) 1 (slR 1 p))) none 7 = some (rowR 7 (32 + p), sX Z info o h ++ [none] ++ [byR x1 (.row 1)], .eff [6] 7)) ∧
     ((none : Option Value) = none ∧ effI (appendCore (sD2 Z info o h k x1) 1 1 (.int .u8 0) (rowR 7 (32 + p)) (source (sD2 Z info o h k x1) 1 (rowR 8 1))) none 9 = some (rowR 9 (32 + p + 1), sD3 Z info o h k x, .eff [7] 9)) ∧
     ((none : Option Value) = none ∧ effI (callE [.sl false, .sl false] (h2SpecR (hmacV wordA)) [slR 3 32, rowR 9 (32 + p + 1)] (sD3 Z info o h k x)) (greads [.sl false, .sl false] [slR 3 32, rowR 9 (32 + p + 1)]) 10 = some (ag g, sD3 Z info o h k x, .load [3, 9])) ∧
     ((none : Option Value) = none ∧ effI (appendCore (sD4 Z info o h k x g) 1 1 (.int .u8 0) (rowC q q) (source (sD4 Z info o h k x g) 1 (slR 10 32))) none 11 = some (rowR 11 (q + 32), (sD4 Z info o h k x g).set 4 none ++ [byR o' (.row 1)], .eff [4] 11)) ∧
     aint .add .i64 (k : Int) 1 = some (.int .i64 ((k + 1 : Nat) : Int)) ∧ True) := by kernel_rfl
def hYe : Hint := ⟨fun r i => match r, i with
  | 7, 3 => some (.pure (.bool false))
  | _, _ => none, fun _ => none⟩
def tYe (z q : Nat) : List Value := slots 44 [(2, .int .i64 (z : Int)), (8, rowR 4 q)]
theorem stopY (Z : Nat → Int) (info o : List Int) (h : V8) (p z q k : Nat) : stepV2 4 yEs hYe 0 cY [0, 1, 2, 3, 4] [] [2, 8] (tY p z (rowR 4 q) (slR 5 32) k) (sX Z info o h) = some (.exit 0, tYe z q, sX0 Z info o) := by kernel_rfl
theorem stopYP (Z : Nat → Int) (info o : List Int) (h : V8) (p z q k : Nat) : stepP yEs hYe 0 cY (tY p z (rowR 4 q) (slR 5 32) k) (sX Z info o h) = (aint .lss .i64 (q : Int) (z : Int) = some (.bool false) ∧ True) := by kernel_rfl
def tG (p z : Nat) : Nat → List Value
  | 0 => tY p z (.slice none 0 0) (.slice none 0 0) 1
  | i + 1 => tY p z (rowR 4 (qF i + 32)) (slR 5 32) (i + 2)
def sG (Z : Nat → Int) (info : List Int) : Nat → St
  | 0 => sY0 Z info
  | i + 1 => sX Z info (outT wordA (k32 Z) info (i + 1)) (gT wordA (k32 Z) info i)
def outL (G : Nat → V8) : Nat → List Int
  | 0 => []
  | i + 1 => outL G i ++ out8 (G i)
theorem outT_L (w : WD) (k info : List Int) (i : Nat) : outT w k info i = outL (gT w k info) i := by
  generalize hG : gT w k info = G
  induction i with
  | zero => rfl
  | succ i ih => rw [outT, outL, ih, hG]
theorem outL_one (G : Nat → V8) : outL G 1 = out8 (G 0) := by
  rw [outL, outL, List.nil_append]
theorem outT_one (w : WD) (k info : List Int) : outT w k info 1 = out8 (gT w k info 0) := (outT_L w k info 1).trans (outL_one _)
theorem sG_one (Z : Nat → Int) (info : List Int) : sG Z info (0 + 1) = sX Z info (out8 (gT wordA (k32 Z) info 0)) (gT wordA (k32 Z) info 0) :=
  (show sG Z info (0 + 1) = sX Z info (outT wordA (k32 Z) info 1) (gT wordA (k32 Z) info 0) from rfl).trans (congrArg (fun o => sX Z info o (gT wordA (k32 Z) info 0)) (outT_one wordA (k32 Z) info))
theorem loopY (Z : Nat → Int) {info : List Int} {z : Nat} (M : Nat) (h1 : ∀ i, i < M + 1 → 32 * i < z) (h2 : z ≤ 32 * (M + 1)) (hz : z ≤ 8160) (hi : info.length ≤ 140737488351232) :
    RunsP (.loop cY) (tY info.length z (.slice none 0 0) (.slice none 0 0) 1) (sY0 Z info) (.exit 0) (tYe z (qF M + 32)) (sX0 Z info (outT wordA (k32 Z) info (M + 1))) := by
  refine Runs.count (M + 1) (tG info.length z) (sG Z info) (e := .exit 0) (fun i hiN => ?_) ?_ (by simp)
  · have hlt := h1 i hiN
    have hq := qF_eq i
    cases i with
    | zero =>
      rw [sG_one]
      refine step_ok yEs_ok ?_ (stepY0 Z info (info ++ [kk 0]) info.length z 1 (gT wordA (k32 Z) info 0)) (plX _ _ _ _)
      simp only [tG, sG]
      rw [stepY0P]
      refine ⟨lss_eq (by simp; omega), ⟨rfl, ?_⟩, ⟨rfl, ?_⟩, ⟨rfl, ?_⟩, add_i64 (by omega) (by omega), trivial⟩
      · rw [app_info (n := 0) (a := []) (r := info) rfl rfl rfl rfl (Nat.zero_add _) (by omega)]; rfl
      · rw [app_one (a := info) (k := w8 1) (r := info ++ [kk 0]) rfl rfl rfl rfl (by omega)]; rfl
      · exact owe_h2R (b := info ++ [kk 0]) (k32_bys Z rfl) (row_bytes rfl (by simp)) (by rw [k32_length]; omega) (by simp; omega) rfl
    | succ i =>
      have hg := out8_length (gT wordA (k32 Z) info i)
      refine step2_ok yEs_ok ?_ (stepY Z info (outT wordA (k32 Z) info (i + 1)) (out8 (gT wordA (k32 Z) info i) ++ info) (out8 (gT wordA (k32 Z) info i) ++ info ++ [kk (i + 1)]) (outT wordA (k32 Z) info (i + 2)) info.length z (qF i + 32) (i + 2) (gT wordA (k32 Z) info i) (gT wordA (k32 Z) info (i + 1))) (plX _ _ _ _)
      simp only [tG, sG]
      rw [stepYP]
      simp only [qF] at hq
      refine ⟨lss_eq (by simp; omega), ⟨rfl, ?_⟩, ⟨rfl, ?_⟩, ⟨rfl, ?_⟩, ⟨rfl, ?_⟩, add_i64 (by omega) (by omega), trivial⟩
      · rw [app_info (n := 32) (a := out8 (gT wordA (k32 Z) info i)) (r := out8 (gT wordA (k32 Z) info i) ++ info) rfl rfl rfl rfl rfl (by omega)]; rfl
      · rw [app_one (a := out8 (gT wordA (k32 Z) info i) ++ info) (k := w8 (i + 2)) (r := out8 (gT wordA (k32 Z) info i) ++ info ++ [kk (i + 1)]) rfl (by rw [List.length_append, hg]) rfl rfl (by omega)]; rfl
      · exact owe_h2R (b := out8 (gT wordA (k32 Z) info i) ++ info ++ [kk (i + 1)]) (k32_bys Z rfl) (row_bytes rfl (by simp [hg]; omega)) (by rw [k32_length]; omega) (by simp [hg]; omega) rfl
      · rw [app_dig (o := outT wordA (k32 Z) info (i + 1)) (g := gT wordA (k32 Z) info (i + 1)) (r := outT wordA (k32 Z) info (i + 2)) rfl (by rw [outT_length]; omega) rfl rfl (by omega)]; rfl
  · have hq := qF_eq M
    refine step2_ok yEs_ok ?_ (stopY Z info (outT wordA (k32 Z) info (M + 1)) (gT wordA (k32 Z) info M) info.length z (qF M + 32) (M + 2)) (plX0 _ _ _)
    simp only [tG, sG]
    rw [stopYP]
    exact ⟨lss_eq (by simp; omega), trivial⟩
def hYf (z q : Nat) (Z : Nat → Int) (info o : List Int) : Hint := ⟨fun r i => match r, i with
  | 1, 1 => some (.pure (.bool false))
  | 3, 1 => some (.pure (.bool false))
  | 16, 2 => some (.pure (.slice (some ⟨4, 0, none⟩) z q))
  | _, _ => none, fun r => if r = 7 then some ([1, 2, 3, 8, 9, 10], fun _ _ => some (.exit 0, tYe z q, sX0 Z info o)) else none⟩
theorem rexpR (Z : Nat → Int) (info o : List Int) (p z q : Nat) : goFH yEs (hYf z q Z info o) 0 Try.f19 (aX Z p (z : Int)) (sE info) = some (.tuple #[.slice (some ⟨4, 0, none⟩) z q, .int .i64 0], sX0 Z info o) := by kernel_rfl
theorem rexpP (Z : Nat → Int) (info o : List Int) (p z q : Nat) : owes yEs (hYf z q Z info o) 0 Try.f19 (aX Z p (z : Int)) (sE info) =
    (aint .lss .i64 (z : Int) 0 = some (.bool false) ∧ aint .gtr .i64 (z : Int) 8160 = some (.bool false) ∧
     RunsP (.loop cY) (tY p z (.slice none 0 0) (.slice none 0 0) 1) (sY0 Z info) (.exit 0) (tYe z q) (sX0 Z info o) ∧
     cut 4 0 q q 1 none (some (.int .i64 (z : Int))) none = some (.slice (some ⟨4, 0, none⟩) z q) ∧ True) := by kernel_rfl
theorem rexpR0 (Z : Nat → Int) (info : List Int) (p : Nat) : goN yEs 2 Try.f19 (aX Z p 0) (sE info) = some (.tuple #[.slice none 0 0, .int .i64 0], sE info) := by kernel_rfl
theorem rexpR1 (Z : Nat → Int) (info : List Int) (p : Nat) (m : Int) : goNH yEs (hXb true) 0 Try.f19 (aX Z p m) (sE info) = some (.tuple #[.slice none 0 0, .int .i64 2], sE info) := by kernel_rfl
theorem rexpP1 (Z : Nat → Int) (info : List Int) (p : Nat) (m : Int) : owes yEs (hXb true) 0 Try.f19 (aX Z p m) (sE info) = (aint .lss .i64 m 0 = some (.bool true) ∧ True) := by kernel_rfl
theorem rexpR2 (Z : Nat → Int) (info : List Int) (p : Nat) (m : Int) : goNH yEs (hXb false) 0 Try.f19 (aX Z p m) (sE info) = some (.tuple #[.slice none 0 0, .int .i64 5], sE info) := by kernel_rfl
theorem rexpP2 (Z : Nat → Int) (info : List Int) (p : Nat) (m : Int) : owes yEs (hXb false) 0 Try.f19 (aX Z p m) (sE info) = (aint .lss .i64 m 0 = some (.bool false) ∧ aint .gtr .i64 m 8160 = some (.bool true) ∧ True) := by kernel_rfl
def rexpRes (w : WD) (k info : List Int) (n : Int) : Value × St :=
  if n < 0 then (.tuple #[.slice none 0 0, .int .i64 2], sE info) else if 8160 < n then (.tuple #[.slice none 0 0, .int .i64 5], sE info) else if n = 0 then (.tuple #[.slice none 0 0, .int .i64 0], sE info) else
    (.tuple #[.slice (some ⟨3, 0, none⟩) n.toNat (32 * nblk n.toNat), .int .i64 0], sE info ++ [byR (outT w k info (nblk n.toNat)) (.row 1)])
theorem rexpand_ac (Z : Nat → Int) {info : List Int} (n : Int) (hi : info.length ≤ 140737488351232) : AC Try.prog 19 (aX Z info.length n) (sE info) (rexpRes wordA (k32 Z) info n).1 (rexpRes wordA (k32 Z) info n).2 := by
  unfold rexpRes
  by_cases h1 : n < 0
  · rw [if_pos h1]
    refine runNH_ok yEs_ok Try.func19 (by kernel_rfl) ?_ (rexpR1 Z info _ n) rfl (plE3 info) rfl
    rw [rexpP1]; exact ⟨lss_eq (by simp; omega), trivial⟩
  · rw [if_neg h1]
    by_cases h2 : 8160 < n
    · rw [if_pos h2]
      refine runNH_ok yEs_ok Try.func19 (by kernel_rfl) ?_ (rexpR2 Z info _ n) rfl (plE3 info) rfl
      rw [rexpP2]; exact ⟨lss_eq (by simp; omega), gtr_eq (by simp; omega), trivial⟩
    · rw [if_neg h2]
      by_cases h3 : n = 0
      · subst h3
        rw [if_pos rfl]
        exact runN_ok yEs_ok Try.func19 (by kernel_rfl) (rexpR0 Z info _) rfl (plE3 info) rfl
      · rw [if_neg h3]
        obtain ⟨z, rfl⟩ := Int.eq_ofNat_of_zero_le (show 0 ≤ n by omega)
        obtain ⟨M, hM⟩ : ∃ M, nblk z = M + 1 := ⟨nblk z - 1, by unfold nblk; omega⟩
        have hN : nblk z = (z + 31) / 32 := rfl
        have hq := qF_eq M
        have hO := runH_ok yEs_ok Try.func19 (by kernel_rfl) (n := 0) (a := aX Z info.length (z : Int)) (s := sE info) (by
          rw [rexpP]
          exact ⟨lss_eq (by simp), gtr_eq (by simp; omega), loopY Z M (by omega) (by omega) (by omega) hi, cut_upto (by omega), trivial⟩) (rexpR Z info (outT wordA (k32 Z) info (M + 1)) info.length z (qF M + 32))
        rw [Int.toNat_natCast, hM, show 32 * (M + 1) = qF M + 32 from by omega]
        refine view_plain hO [0, 1, 2, 4] rfl rfl rfl ?_ rfl
        have h0 : plainReg none = true := rfl
        simp only [sE, List.cons_append, List.nil_append, List.all_cons, List.all_nil, byR, plainReg_u8, h0, Bool.and_true, Bool.and_self]
def rexpandSpec (w : WD) (args : List Value) (st : St) : Option (Value × St) :=
  match args, st with
  | [.agg cs, .slice (some ⟨1, 0, none⟩) m d, .int .i64 n], [none, some ⟨xs, .ro⟩, none] => match u8s cs.toList, u8s xs with
    | some k, some info => if k.length = 32 ∧ m = info.length ∧ d = info.length ∧ info.length ≤ 140737488351232 then some (rexpRes w k info n) else none
    | _, _ => none
  | _, _ => none
theorem rexpand_ac_sp {cs : Array Value} {m d : Nat} {n : Int} {xs : List Value} {k info : List Int} {r : Value} {s' : St} (hk : u8s cs.toList = some k) (hb : u8s xs = some info) (hc : k.length = 32 ∧ m = info.length ∧ d = info.length ∧ info.length ≤ 140737488351232)
    (hh : some (rexpRes wordA k info n) = some (r, s')) : AC Try.prog 19 [.agg cs, .slice (some ⟨1, 0, none⟩) m d, .int .i64 n] [none, some ⟨xs, .ro⟩, none] r s' := by
  obtain ⟨h1, rfl, rfl, h4⟩ := hc
  obtain ⟨rfl, rfl⟩ : (rexpRes wordA k info n).1 = r ∧ (rexpRes wordA k info n).2 = s' := by rw [Option.some.inj hh]; exact ⟨rfl, rfl⟩
  have e1 := u8s_spec hk
  have e2 : cs = ⟨k.map (.int .u8)⟩ := by cases cs; simp only at e1; rw [e1]
  have h := rexpand_ac (fun i => k.getD i 0) n h4
  unfold aX at h
  rw [← k32_of h1] at h
  rw [u8s_spec hb, e2]
  exact h
noncomputable def rexpandE : Entry := ⟨19, [.val, .sl false, .val], rexpandSpec wordA⟩
theorem rexpandE_ok : EntryOk Try.prog rexpandE := by
  refine ⟨fun a s r s' hh => ?_, body_of Try.func19 (by kernel_rfl) (by kernel_rfl)⟩
  simp only [rexpandE] at hh
  unfold rexpandSpec at hh
  split at hh
  · split at hh
    · rename_i k info hk hb
      split at hh
      · rename_i hc
        exact rexpand_ac_sp hk hb hc hh
      · cases hh
    · cases hh
  · cases hh
theorem rexpandSpec_cells {w : WD} {k info : List Int} {n : Int} (h : k.length = 32) (hi : info.length ≤ 140737488351232) : rexpandSpec w [kag k, slR 1 info.length, .int .i64 n] (sE info) = some (rexpRes w k info n) := by
  simp only [rexpandSpec, kag, slR, sE, byR, u8s_map]
  rw [if_pos ⟨h, trivial, trivial, hi⟩]
/-! calls -/
theorem plain_kag (k : List Int) : plain (kag k) = true := plain_u8 _
def xArgs (k : List Int) (y : Value) (n : Int) : List Value := [kag k, y, .int .i64 n]
def xKs : List AK := [.val, .sl false, .val]
theorem x_bares {st : St} {y : Value} {j p : Nat} {k info : List Int} {n : Int} (hy : Bys st y j p info) : bares xKs (xArgs k y n) = false := by simp only [xKs, xArgs, bares, hy.bare, Bool.or_false, Bool.false_or]; rfl
theorem x_picks {st : St} {y : Value} {j p e : Nat} {k info : List Int} {n : Int} (hy : Bys st y j p info) : picks e xKs 0 (xArgs k y n) = some (xArgs k (slR 1 info.length) n, [none, some ⟨j, p, info.length, false⟩, none]) := by
  have h1 : pick1 e 0 .val (kag k) = some (kag k, none) := by simp only [pick1, plain_kag, if_true]
  have h2 : pick1 e (0 + 1 + 1) .val (.int .i64 n) = some (.int .i64 n, none) := rfl
  simp only [xKs, xArgs, picks, hy.pick, h1, h2]
theorem x_good {F : List Value → St → Option (Value × St)} {st : St} {y v : Value} {v' : Value} {j p len z q : Nat} {k info o : List Int} {n : Int} (hy : Bys st y j p info)
    (hF : F (xArgs k (slR 1 info.length) n) (sE info) = some (.tuple #[.slice (some ⟨3, 0, none⟩) z q, .int .i64 0], sE info ++ [byR o (.row 1)])) (hl : st.length = len) :
    effI (callE xKs F (xArgs k y n) st) (greads xKs (xArgs k y n)) len = some (.tuple #[.slice (some ⟨len, 0, none⟩) z q, .int .i64 0], st ++ [byR o (.row 1)], .eff [] len) := by
  subst hl
  refine owe_look (x_bares hy) (x_picks hy) rfl (gcall_look (sst := sE info) (news := [byR o (.row 1)]) (res := .tuple #[.slice (some ⟨3, 0, none⟩) z q, .int .i64 0]) (x_bares hy) (x_picks hy) (smalls_none (hy.small (smalls_none smalls_nil))) (by simp [disjFps, disj1]) hF (by simp) (mapO_plainReg ?_) rfl) (by simp)
  simp only [List.all_cons, List.all_nil, byR, plainReg, plain_u8, Bool.and_true]
theorem x_see {F : List Value → St → Option (Value × St)} {st : St} {y v : Value} {j p len : Nat} {k info : List Int} {n : Int} (hy : Bys st y j p info)
    (hF : F (xArgs k (slR 1 info.length) n) (sE info) = some (v, sE info)) (hv : plain v = true) (hl : st.length = len) :
    effI (callE xKs F (xArgs k y n) st) (greads xKs (xArgs k y n)) len = some (v, st, .load [j]) :=
  owe_see (x_bares hy) (x_picks hy) rfl (gcall_see (sst := sE info) (x_bares hy) (x_picks hy) (smalls_none (hy.small (smalls_none smalls_nil))) (by simp [disjFps, disj1]) hF (by simp) hv) hl
theorem x_nil {F : List Value → St → Option (Value × St)} {st : St} {len z q : Nat} {k o : List Int} {n : Int}
    (hF : F (xArgs k (slR 1 0) n) (sE []) = some (.tuple #[.slice (some ⟨3, 0, none⟩) z q, .int .i64 0], sE [] ++ [byR o (.row 1)])) (hl : st.length = len) :
    effI (callE xKs F (xArgs k (.slice none 0 0) n) st) (greads xKs (xArgs k (.slice none 0 0) n)) len = some (.tuple #[.slice (some ⟨len + 1, 0, none⟩) z q, .int .i64 0], st ++ [some ⟨[], .rw⟩] ++ [byR o (.row 1)], .eff [] len) := by
  subst hl
  have hbr : bares xKs (xArgs k (.slice none 0 0) n) = true := rfl
  have hx' : Bys (st ++ [some ⟨[], .rw⟩]) (slR st.length 0) st.length 0 [] := Bys.all (l := []) (kd := .rw) (by simp [byR])
  have h1 : pick1 st.length 0 .val (kag k) = some (kag k, none) := by simp only [pick1, plain_kag, if_true]
  have h2 : pick1 st.length (0 + 1 + 1) .val (.int .i64 n) = some (.int .i64 n, none) := rfl
  have h3 : pick1 st.length (0 + 1) (.sl false) (.slice none 0 0) = some (slR 1 0, some ⟨st.length, 0, 0, false⟩) := rfl
  have hpk : picks st.length xKs 0 (xArgs k (.slice none 0 0) n) = some (xArgs k (slR 1 0) n, [none, some ⟨st.length, 0, 0, false⟩, none]) := by simp only [xKs, xArgs, picks, h1, h2, h3]
  refine owe_bare hbr hpk rfl ?_
  rw [gcall_bare hbr]
  exact gcall0_look (e := st.length) (ks := xKs) (spec := F) (st := st ++ [some ⟨[], .rw⟩]) (sst := sE []) (news := [byR o (.row 1)]) (news' := [byR o (.row 1)]) (res := .tuple #[.slice (some ⟨3, 0, none⟩) z q, .int .i64 0]) (res' := .tuple #[.slice (some ⟨st.length + 1, 0, none⟩) z q, .int .i64 0])
    hpk (smalls_none (hx'.small (smalls_none smalls_nil))) (by simp [disjFps, disj1]) hF (by simp) (mapO_plainReg (by simp only [List.all_cons, List.all_nil, byR, plainReg, plain_u8, Bool.and_true])) (by
      rw [show (st ++ [some (⟨[], .rw⟩ : Reg)]).length = st.length + 1 by simp]
      rfl)
def exErr (n : Int) : Int := if n < 0 then 2 else 5
theorem expRes_good {w : WD} {k info : List Int} {z : Nat} (hz : z ≤ 8160) : expRes w k info (z : Int) = (.tuple #[.slice (some ⟨3, 0, none⟩) z z, .int .i64 0], sE info ++ [byR (outT w k info (nblk z)) (.row 1)]) := by
  unfold expRes; rw [if_neg (by omega), if_neg (by omega), Int.toNat_natCast]
theorem expRes_bad {w : WD} {k info : List Int} {n : Int} (h : n < 0 ∨ 8160 < n) : expRes w k info n = (.tuple #[.slice none 0 0, .int .i64 (exErr n)], sE info) := by
  unfold expRes exErr
  by_cases h1 : n < 0
  · rw [if_pos h1, if_pos h1]
  · rw [if_neg h1, if_neg h1, if_pos (by omega)]
theorem rexpRes_good {w : WD} {k info : List Int} {z : Nat} (h0 : z ≠ 0) (hz : z ≤ 8160) : rexpRes w k info (z : Int) = (.tuple #[.slice (some ⟨3, 0, none⟩) z (32 * nblk z), .int .i64 0], sE info ++ [byR (outT w k info (nblk z)) (.row 1)]) := by
  unfold rexpRes; rw [if_neg (by omega), if_neg (by omega), if_neg (by omega), Int.toNat_natCast]
theorem rexpRes_zero {w : WD} {k info : List Int} : rexpRes w k info 0 = (.tuple #[.slice none 0 0, .int .i64 0], sE info) := rfl
theorem rexpRes_bad {w : WD} {k info : List Int} {n : Int} (h : n < 0 ∨ 8160 < n) : rexpRes w k info n = (.tuple #[.slice none 0 0, .int .i64 (exErr n)], sE info) := by
  unfold rexpRes exErr
  by_cases h1 : n < 0
  · rw [if_pos h1, if_pos h1]
  · rw [if_neg h1, if_neg h1, if_pos (by omega)]
theorem owe_expand {st : St} {y : Value} {j p len z : Nat} {k info : List Int} (hk : k.length = 32) (hy : Bys st y j p info) (hi : info.length ≤ 140737488351232) (hz : z ≤ 8160) (hl : st.length = len) :
    effI (callE xKs (expandSpec wordO) (xArgs k y (z : Int)) st) (greads xKs (xArgs k y (z : Int))) len = some (.tuple #[.slice (some ⟨len, 0, none⟩) z z, .int .i64 0], st ++ [byR (outT wordO k info (nblk z)) (.row 1)], .eff [] len) :=
  x_good (v := undef) (v' := undef) hy (by rw [xArgs, expandSpec_cells hk hi, expRes_good hz]) hl
theorem owe_expandBad {st : St} {y : Value} {j p len : Nat} {k info : List Int} {n : Int} (hk : k.length = 32) (hy : Bys st y j p info) (hi : info.length ≤ 140737488351232) (hn : n < 0 ∨ 8160 < n) (hl : st.length = len) :
    effI (callE xKs (expandSpec wordO) (xArgs k y n) st) (greads xKs (xArgs k y n)) len = some (.tuple #[.slice none 0 0, .int .i64 (exErr n)], st, .load [j]) :=
  x_see hy (by rw [xArgs, expandSpec_cells hk hi, expRes_bad hn]) rfl hl
theorem owe_expandNil {st : St} {len z : Nat} {k : List Int} (hk : k.length = 32) (hz : z ≤ 8160) (hl : st.length = len) :
    effI (callE xKs (expandSpec wordO) (xArgs k (.slice none 0 0) (z : Int)) st) (greads xKs (xArgs k (.slice none 0 0) (z : Int))) len = some (.tuple #[.slice (some ⟨len + 1, 0, none⟩) z z, .int .i64 0], st ++ [some ⟨[], .rw⟩] ++ [byR (outT wordO k [] (nblk z)) (.row 1)], .eff [] len) :=
  x_nil (by rw [xArgs, show slR 1 0 = slR 1 ([] : List Int).length from rfl, expandSpec_cells hk (by simp), expRes_good hz]) hl
theorem owe_rexpand {st : St} {y : Value} {j p len z : Nat} {k info : List Int} (hk : k.length = 32) (hy : Bys st y j p info) (hi : info.length ≤ 140737488351232) (h0 : z ≠ 0) (hz : z ≤ 8160) (hl : st.length = len) :
    effI (callE xKs (rexpandSpec wordA) (xArgs k y (z : Int)) st) (greads xKs (xArgs k y (z : Int))) len = some (.tuple #[.slice (some ⟨len, 0, none⟩) z (32 * nblk z), .int .i64 0], st ++ [byR (outT wordA k info (nblk z)) (.row 1)], .eff [] len) :=
  x_good (v := undef) (v' := undef) hy (by rw [xArgs, rexpandSpec_cells hk hi, rexpRes_good h0 hz]) hl
theorem owe_rexpandBad {st : St} {y : Value} {j p len : Nat} {k info : List Int} {n : Int} (hk : k.length = 32) (hy : Bys st y j p info) (hi : info.length ≤ 140737488351232) (hn : n < 0 ∨ 8160 < n) (hl : st.length = len) :
    effI (callE xKs (rexpandSpec wordA) (xArgs k y n) st) (greads xKs (xArgs k y n)) len = some (.tuple #[.slice none 0 0, .int .i64 (exErr n)], st, .load [j]) :=
  x_see hy (by rw [xArgs, rexpandSpec_cells hk hi, rexpRes_bad hn]) rfl hl
theorem owe_rexpandZero {st : St} {y : Value} {j p len : Nat} {k info : List Int} (hk : k.length = 32) (hy : Bys st y j p info) (hi : info.length ≤ 140737488351232) (hl : st.length = len) :
    effI (callE xKs (rexpandSpec wordA) (xArgs k y 0) st) (greads xKs (xArgs k y 0)) len = some (.tuple #[.slice none 0 0, .int .i64 0], st, .load [j]) :=
  x_see hy (by rw [xArgs, rexpandSpec_cells hk hi, rexpRes_zero]) rfl hl
theorem owe_rexpandNil {st : St} {len z : Nat} {k : List Int} (hk : k.length = 32) (h0 : z ≠ 0) (hz : z ≤ 8160) (hl : st.length = len) :
    effI (callE xKs (rexpandSpec wordA) (xArgs k (.slice none 0 0) (z : Int)) st) (greads xKs (xArgs k (.slice none 0 0) (z : Int))) len = some (.tuple #[.slice (some ⟨len + 1, 0, none⟩) z (32 * nblk z), .int .i64 0], st ++ [some ⟨[], .rw⟩] ++ [byR (outT wordA k [] (nblk z)) (.row 1)], .eff [] len) :=
  x_nil (by rw [xArgs, show slR 1 0 = slR 1 ([] : List Int).length from rfl, rexpandSpec_cells hk (by simp), rexpRes_good h0 hz]) hl
/-! bytes -/
theorem app_B8 {a b : List Int} (ha : ∀ y ∈ a, B8 y) (hb : ∀ y ∈ b, B8 y) : ∀ y ∈ a ++ b, B8 y := fun y hy => (List.mem_append.1 hy).elim (ha y) (hb y)
theorem kk_B8 (i : Nat) : ∀ y ∈ [kk i], B8 y := fun y hy => by rw [List.mem_singleton.1 hy]; exact u8_B8 _
theorem gT_B8 {k info : List Int} (hK : ∀ y ∈ k, B8 y) (hI : ∀ y ∈ info, B8 y) (i : Nat) : gT wordO k info i = gT wordA k info i := by
  induction i with
  | zero => exact hmac_B8 hK (app_B8 hI (kk_B8 0))
  | succ i ih =>
    simp only [gT, ih]
    exact hmac_B8 hK (app_B8 (app_B8 (out8_B8 _) hI) (kk_B8 _))
theorem outT_B8 {k info : List Int} (hK : ∀ y ∈ k, B8 y) (hI : ∀ y ∈ info, B8 y) (i : Nat) : outT wordO k info i = outT wordA k info i := by
  induction i with
  | zero => rfl
  | succ i ih => simp only [outT, ih, gT_B8 hK hI]
end Go.Proofs.Ytmpcmefokjlknaa.Kd
