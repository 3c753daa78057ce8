/- kdf.Expand: what it comes to. Without conditions. -/
import Derived.Test.YtmpcmefokjlknaaKdC
import Derived.Test.YtmpcmefokjlknaaVw
namespace Go.Proofs.Ytmpcmefokjlknaa.Kd
open Am Run IntWalk Bl Byt

def k32 (Z : Nat → Int) : List Int := (List.range 32).map Z
theorem k32_length (Z : Nat → Int) : (k32 Z).length = 32 := rfl
/-- The number behind i rounds. -/
def kk (i : Nat) : Int := IntKind.u8.wrap ((i + 1 : Nat) : Int)
theorem kk_add (i : Nat) : aint .add .u8 (kk i) 1 = some (.int .u8 (kk (i + 1))) := by
  have e : ∀ x : Int, IntKind.u8.wrap x = x % 256 := fun _ => rfl
  simp only [aint, kk, e, Option.some.injEq, Value.int.injEq, true_and]
  omega
/-- The i-th 32 bytes' numbers. -/
def gT (w : WD) (k info : List Int) : Nat → V8
  | 0 => hmacV w k (info ++ [kk 0])
  | i + 1 => hmacV w k (out8 (gT w k info i) ++ info ++ [kk (i + 1)])
def outT (w : WD) (k info : List Int) : Nat → List Int
  | 0 => []
  | i + 1 => outT w k info i ++ out8 (gT w k info i)
theorem outT_length (w : WD) (k info : List Int) (i : Nat) : (outT w k info i).length = 32 * i := by
  induction i with
  | zero => rfl
  | succ i ih => simp only [outT, List.length_append, ih, out8_length]; omega
def aX (Z : Nat → Int) (p : Nat) (m : Int) : List Value := [.agg ⟨(k32 Z).map (.int .u8)⟩, slR 1 p, .int .i64 m]
def sE (info : List Int) : St := [none, byR info .ro, none]
theorem plE3 (info : List Int) : (sE info).all plainReg = true := by
  have h1 : plainReg none = true := rfl
  simp only [sE, List.all_cons, List.all_nil, byR, plain_u8, plainReg_u8, h1, Bool.and_true, Bool.and_self]
noncomputable def cX : Code := loopOf 8 (body Try.f18)
noncomputable def xEs : List Entry := [hmacE]
theorem xEs_ok : ∀ e ∈ xEs, EntryOk Try.prog e := es1 hmacE_ok
def rowC (q c : Nat) : Value := .slice (some ⟨4, 0, some 1⟩) q c
def tX (p z : Nat) (q c : Nat) (last : Value) (k : Int) : List Value := slots 47 [(1, slR 1 p), (2, .int .i64 (z : Int)), (3, pR 3), (8, rowC q c), (9, last), (10, .int .u8 k)]
def sX0 (Z : Nat → Int) (info o : List Int) : St := [none, byR info .ro, none, byR (k32 Z) .rw, byR o (.row 1)]
def sX (Z : Nat → Int) (info o : List Int) (g : V8) : St := sX0 Z info o ++ [byR (out8 g) .rw]
/-! the first round -/
def hX0 (p q : Nat) (info x o' : List Int) (k' : Int) (g : V8) : Hint := ⟨fun r i => match r, i with
  | 8, 3 => some (.pure (.bool true))
  | 10, 4 => some (.eff (rowR 7 p) (fun s => s.set 6 none ++ [byR info (.row 1)]) [6])
  | 10, 7 => some (.eff (rowR 9 (p + 1)) (fun s => s.set 7 none ++ [byR x (.row 1)]) [7])
  | 11, 2 => some (.read (ag g) [3, 9])
  | 12, 2 => some (.eff (rowR 11 (q + 32)) (fun s => s.set 4 none ++ [byR o' (.row 1)]) [4])
  | 9, 1 => some (.pure (.int .u8 k'))
  | _, _ => none, fun _ => none⟩
def sA1 (Z : Nat → Int) (info o : List Int) : St := sX0 Z info o ++ [none] ++ [byR [] (.row 1)]
def sA2 (Z : Nat → Int) (info o : List Int) (k : Int) : St := sX0 Z info o ++ [none] ++ [none] ++ [byR info (.row 1)] ++ [byR [k] (.row 1)]
def sA3 (Z : Nat → Int) (info o : List Int) (k : Int) (x : List Int) : St := sX0 Z info o ++ [none] ++ [none] ++ [none] ++ [byR [k] (.row 1)] ++ [byR x (.row 1)]
def sA4 (Z : Nat → Int) (info o : List Int) (k : Int) (x : List Int) (g : V8) : St := sA3 Z info o k x ++ [byR (out8 g) .rw]
theorem stepX0 (Z : Nat → Int) (info o x o' : List Int) (p z q c : Nat) (k k' : Int) (g : V8) : stepV2 4 xEs (hX0 p q info x o' k' g) 0 cX [0, 1, 2, 3, 11, 10] [] [1, 2, 3, 8, 9, 10] (tX p z q c (.slice none 0 0) k) (sX0 Z info o) = some (.normal, tX p z (q + 32) (q + 32) (slR 5 32) k', sX Z info o' g) := by kernel_rfl
theorem stepX0P (Z : Nat → Int) (info o x o' : List Int) (p z q c : Nat) (k k' : Int) (g : V8) : stepP xEs (hX0 p q info x o' k' g) 0 cX (tX p z q c (.slice none 0 0) k) (sX0 Z info o) =
    (aint .lss .i64 (q : Int) (z : Int) = some (.bool true) ∧
     ((none : Option Value) = none ∧ effI (appendCore (sA1 Z info o) 1 1 (.int .u8 0) (rowR 6 0) (source (sA1 Z info o) 1 (slR 1 p))) none 7 = some (rowR 7 p, sX0 Z info o ++ [none] ++ [none] ++ [byR info (.row 1)], .eff [6] 7)) ∧
     ((none : Option Value) = none ∧ effI (appendCore (sA2 Z info o k) 1 1 (.int .u8 0) (rowR 7 p) (source (sA2 Z info o k) 1 (rowR 8 1))) none 9 = some (rowR 9 (p + 1), sA3 Z info o k x, .eff [7] 9)) ∧
     ((none : Option Value) = none ∧ effI (callE [.sl false, .sl false] (h2Spec (hmacV wordO)) [slR 3 32, rowR 9 (p + 1)] (sA3 Z info o k x)) (greads [.sl false, .sl false] [slR 3 32, rowR 9 (p + 1)]) 10 = some (ag g, sA3 Z info o k x, .load [3, 9])) ∧
     ((none : Option Value) = none ∧ effI (appendCore (sA4 Z info o k x g) 1 1 (.int .u8 0) (rowC q c) (source (sA4 Z info o k x g) 1 (slR 10 32))) none 11 = some (rowR 11 (q + 32), (sA4 Z info o k x g).set 4 none ++ [byR o' (.row 1)], .eff [4] 11)) ∧
     aint .add .u8 k 1 = some (.int .u8 k') ∧ True) := by kernel_rfl
/-! the rounds behind it -/
def hX (p q : Nat) (x1 x o' : List Int) (k' : Int) (g : V8) : Hint := ⟨fun r i => match r, i with
  | 8, 3 => some (.pure (.bool true))
  | 10, 4 => some (.eff (rowR 8 (32 + p)) (fun s => s.set 7 none ++ [byR x1 (.row 1)]) [7])
  | 10, 7 => some (.eff (rowR 10 (32 + p + 1)) (fun s => s.set 8 none ++ [byR x (.row 1)]) [8])
  | 11, 2 => some (.read (ag g) [3, 10])
  | 12, 2 => some (.eff (rowR 12 (q + 32)) (fun s => s.set 4 none ++ [byR o' (.row 1)]) [4])
  | 9, 1 => some (.pure (.int .u8 k'))
  | _, _ => none, fun _ => none⟩
def sB1 (Z : Nat → Int) (info o : List Int) (h : V8) : St := sX Z info o h ++ [none] ++ [byR (out8 h) (.row 1)]
def sB2 (Z : Nat → Int) (info o : List Int) (h : V8) (k : Int) (x1 : List Int) : St := sX Z info o h ++ [none] ++ [none] ++ [byR x1 (.row 1)] ++ [byR [k] (.row 1)]
def sB3 (Z : Nat → Int) (info o : List Int) (h : V8) (k : Int) (x : List Int) : St := sX Z info o h ++ [none] ++ [none] ++ [none] ++ [byR [k] (.row 1)] ++ [byR x (.row 1)]
def sB4 (Z : Nat → Int) (info o : List Int) (h : V8) (k : Int) (x : List Int) (g : V8) : St := sB3 Z info o h k x ++ [byR (out8 g) .rw]
theorem stepX (Z : Nat → Int) (info o x1 x o' : List Int) (p z q c : Nat) (k k' : Int) (h g : V8) : stepV2 4 xEs (hX p q x1 x o' k' g) 0 cX [0, 1, 2, 3, 12, 11] [] [1, 2, 3, 8, 9, 10] (tX p z q c (slR 5 32) k) (sX Z info o h) = some (.normal, tX p z (q + 32) (q + 32) (slR 5 32) k', sX Z info o' g) := by kernel_rfl
theorem stepXP (Z : Nat → Int) (info o x1 x o' : List Int) (p z q c : Nat) (k k' : Int) (h g : V8) : stepP xEs (hX p q x1 x o' k' g) 0 cX (tX p z q c (slR 5 32) k) (sX Z info o h) =
    (aint .lss .i64 (q : Int) (z : Int) = some (.bool true) ∧
     ((none : Option Value) = none ∧ effI (appendCore (sB1 Z info o h) 1 1 (.int .u8 0) (rowR 7 32) (source (sB1 Z info o h) 1 (slR 1 p))) none 8 = some (rowR 8 (32 + p), sX Z info o h ++ [none] ++ [none] ++ [byR x1 (.row 1)], .eff [7] 8)) ∧
     ((none : Option Value) = none ∧ effI (appendCore (sB2 Z info o h k x1) 1 1 (.int .u8 0) (rowR 8 (32 + p)) (source (sB2 Z info o h k x1) 1 (rowR 9 1))) none 10 = some (rowR 10 (32 + p + 1), sB3 Z info o h k x, .eff [8] 10)) ∧
     ((none : Option Value) = none ∧ effI (callE [.sl false, .sl false] (h2Spec (hmacV wordO)) [slR 3 32, rowR 10 (32 + p + 1)] (sB3 Z info o h k x)) (greads [.sl false, .sl false] [slR 3 32, rowR 10 (32 + p + 1)]) 11 = some (ag g, sB3 Z info o h k x, .load [3, 10])) ∧
     ((none : Option Value) = none ∧ effI (appendCore (sB4 Z info o h k x g) 1 1 (.int .u8 0) (rowC q c) (source (sB4 Z info o h k x g) 1 (slR 11 32))) none 12 = some (rowR 12 (q + 32), (sB4 Z info o h k x g).set 4 none ++ [byR o' (.row 1)], .eff [4] 12)) ∧
     aint .add .u8 k 1 = some (.int .u8 k') ∧ True) := by kernel_rfl
/-! the end -/
def hXe : Hint := ⟨fun r i => match r, i with
  | 8, 3 => some (.pure (.bool false))
  | _, _ => none, fun _ => none⟩
def tXe (z q c : Nat) : List Value := slots 47 [(2, .int .i64 (z : Int)), (8, rowC q c)]
theorem stopX0 (Z : Nat → Int) (info o : List Int) (p z q c : Nat) (k : Int) : stepV2 4 xEs hXe 0 cX [0, 1, 2, 3, 4] [] [2, 8] (tX p z q c (.slice none 0 0) k) (sX0 Z info o) = some (.exit 1, tXe z q c, sX0 Z info o) := by kernel_rfl
theorem stopX0P (Z : Nat → Int) (info o : List Int) (p z q c : Nat) (k : Int) : stepP xEs hXe 0 cX (tX p z q c (.slice none 0 0) k) (sX0 Z info o) = (aint .lss .i64 (q : Int) (z : Int) = some (.bool false) ∧ True) := by kernel_rfl
theorem stopX (Z : Nat → Int) (info o : List Int) (h : V8) (p z q c : Nat) (k : Int) : stepV2 4 xEs hXe 0 cX [0, 1, 2, 3, 4] [] [2, 8] (tX p z q c (slR 5 32) k) (sX Z info o h) = some (.exit 1, tXe z q c, sX0 Z info o) := by kernel_rfl
theorem stopXP (Z : Nat → Int) (info o : List Int) (h : V8) (p z q c : Nat) (k : Int) : stepP xEs hXe 0 cX (tX p z q c (slR 5 32) k) (sX Z info o h) = (aint .lss .i64 (q : Int) (z : Int) = some (.bool false) ∧ True) := by kernel_rfl
theorem plX0 (Z : Nat → Int) (info o : List Int) : plainBut [] 0 (sX0 Z info o) = true := by
  have h1 : plainReg none = true := rfl
  simp only [sX0, plainBut, byR, plainReg_u8, h1, Bool.or_true, Bool.and_true]
theorem plX (Z : Nat → Int) (info o : List Int) (g : V8) : plainBut [] 0 (sX Z info o g) = true := by
  have h1 : plainReg none = true := rfl
  simp only [sX, sX0, List.cons_append, List.nil_append, plainBut, byR, plainReg_u8, h1, Bool.or_true, Bool.and_true]
theorem app_info {st : St} {i n : Nat} {a info r : List Int} (h : st[i]? = some (byR a (.row 1))) (ha : a.length = n) (h1 : st[1]? = some (byR info .ro)) (hr : a ++ info = r) {m : Nat} (hm : n + info.length = m) (hl : m ≤ 140737488355328) :
    appendCore st 1 1 (.int .u8 0) (rowR i n) (source st 1 (slR 1 info.length)) = some (rowR st.length m, st.set i none ++ [byR r (.row 1)], [i]) := by
  subst hr ha hm
  rw [source_bys (Bys.all h1)]
  exact append_row h hl
theorem app_one {st : St} {i n j : Nat} {a r : List Int} {k : Int} (h : st[i]? = some (byR a (.row 1))) (ha : a.length = n) (h1 : st[j]? = some (byR [k] (.row 1))) (hr : a ++ [k] = r) (hl : n + 1 ≤ 140737488355328) :
    appendCore st 1 1 (.int .u8 0) (rowR i n) (source st 1 (rowR j 1)) = some (rowR st.length (n + 1), st.set i none ++ [byR r (.row 1)], [i]) := by
  subst hr ha
  rw [show rowR j 1 = rowR j [k].length from rfl, source_bys (Bys.row h1)]
  exact append_row h hl
theorem app_dig {st : St} {j q c : Nat} {o r : List Int} {g : V8} (h : st[4]? = some (byR o (.row 1))) (ho : o.length = q) (h1 : st[j]? = some (byR (out8 g) .rw)) (hr : o ++ out8 g = r) (hl : q + 32 ≤ 140737488355328) :
    appendCore st 1 1 (.int .u8 0) (rowC q c) (source st 1 (slR j 32)) = some (rowR st.length (q + 32), st.set 4 none ++ [byR r (.row 1)], [4]) := by
  subst hr ho
  rw [show slR j 32 = slR j (out8 g).length from rfl, source_bys (Bys.all h1)]
  exact append_row h (by rw [out8_length]; exact hl)
def qF : Nat → Nat
  | 0 => 0
  | i + 1 => qF i + 32
theorem qF_eq (i : Nat) : qF i = 32 * i := by
  induction i with
  | zero => rfl
  | succ i ih => simp only [qF, ih]; omega
def capF (z : Nat) : Nat → Nat
  | 0 => z + 32
  | i + 1 => qF i + 32
def tF (p z : Nat) : Nat → List Value
  | 0 => tX p z 0 (z + 32) (.slice none 0 0) (kk 0)
  | i + 1 => tX p z (qF i + 32) (qF i + 32) (slR 5 32) (kk (i + 1))
def sF (Z : Nat → Int) (info : List Int) : Nat → St
  | 0 => sX0 Z info []
  | i + 1 => sX Z info (outT wordO (k32 Z) info (i + 1)) (gT wordO (k32 Z) info i)
theorem k32_bys {st : St} (Z : Nat → Int) (h : st[3]? = some (byR (k32 Z) .rw)) : Bys st (slR 3 32) 3 0 (k32 Z) := Bys.all h
theorem loopX (Z : Nat → Int) {info : List Int} {z : Nat} (N : Nat) (h1 : ∀ i, i < N → 32 * i < z) (h2 : z ≤ 32 * N) (hz : z ≤ 8160) (hi : info.length ≤ 140737488351232) :
    RunsP (.loop cX) (tX info.length z 0 (z + 32) (.slice none 0 0) (kk 0)) (sX0 Z info []) (.exit 1) (tXe z (qF N) (capF z N)) (sX0 Z info (outT wordO (k32 Z) info N)) := by
  refine Runs.count N (tF info.length z) (sF Z info) (e := .exit 1) (fun i hiN => ?_) ?_ (by simp)
  · have hlt := h1 i hiN
    have hq := qF_eq i
    cases i with
    | zero =>
      refine step2_ok xEs_ok ?_ (stepX0 Z info [] (info ++ [kk 0]) (outT wordO (k32 Z) info 1) info.length z 0 (z + 32) (kk 0) (kk 1) (gT wordO (k32 Z) info 0)) (plX _ _ _ _)
      simp only [tF, sF]
      rw [stepX0P]
      refine ⟨lss_eq (by simp; omega), ⟨rfl, ?_⟩, ⟨rfl, ?_⟩, ⟨rfl, ?_⟩, ⟨rfl, ?_⟩, kk_add 0, trivial⟩
      · rw [app_info (n := 0) (a := []) (r := info) rfl rfl rfl rfl (Nat.zero_add _) (by omega)]; rfl
      · rw [app_one (a := info) (k := kk 0) (r := info ++ [kk 0]) rfl rfl rfl rfl (by omega)]; rfl
      · exact owe_h2 (b := info ++ [kk 0]) (k32_bys Z rfl) (row_bytes rfl (by simp)) (by rw [k32_length]; omega) (by simp; omega) rfl
      · rw [app_dig (q := 0) (o := []) (g := gT wordO (k32 Z) info 0) (r := outT wordO (k32 Z) info 1) rfl rfl rfl rfl (by omega)]; rfl
    | succ i =>
      have hg := out8_length (gT wordO (k32 Z) info i)
      refine step2_ok xEs_ok ?_ (stepX Z info (outT wordO (k32 Z) info (i + 1)) (out8 (gT wordO (k32 Z) info i) ++ info) (out8 (gT wordO (k32 Z) info i) ++ info ++ [kk (i + 1)]) (outT wordO (k32 Z) info (i + 2)) info.length z (qF i + 32) (qF i + 32) (kk (i + 1)) (kk (i + 2)) (gT wordO (k32 Z) info i) (gT wordO (k32 Z) info (i + 1))) (plX _ _ _ _)
      simp only [tF, sF]
      rw [stepXP]
      simp only [qF] at hq
      refine ⟨lss_eq (by simp; omega), ⟨rfl, ?_⟩, ⟨rfl, ?_⟩, ⟨rfl, ?_⟩, ⟨rfl, ?_⟩, kk_add (i + 1), trivial⟩
      · rw [app_info (n := 32) (a := out8 (gT wordO (k32 Z) info i)) (r := out8 (gT wordO (k32 Z) info i) ++ info) rfl rfl rfl rfl rfl (by omega)]; rfl
      · rw [app_one (a := out8 (gT wordO (k32 Z) info i) ++ info) (k := kk (i + 1)) (r := out8 (gT wordO (k32 Z) info i) ++ info ++ [kk (i + 1)]) rfl (by rw [List.length_append, hg]) rfl rfl (by omega)]; rfl
      · exact owe_h2 (b := out8 (gT wordO (k32 Z) info i) ++ info ++ [kk (i + 1)]) (k32_bys Z rfl) (row_bytes rfl (by simp [hg]; omega)) (by rw [k32_length]; omega) (by simp [hg]; omega) rfl
      · rw [app_dig (o := outT wordO (k32 Z) info (i + 1)) (g := gT wordO (k32 Z) info (i + 1)) (r := outT wordO (k32 Z) info (i + 2)) rfl (by rw [outT_length]; omega) rfl rfl (by omega)]; rfl
  · have hq := qF_eq N
    cases N with
    | zero =>
      refine step2_ok xEs_ok ?_ (stopX0 Z info [] info.length z 0 (z + 32) (kk 0)) (plX0 _ _ _)
      simp only [tF, sF]
      rw [stopX0P]
      exact ⟨lss_eq (by simp; omega), trivial⟩
    | succ i =>
      refine step2_ok xEs_ok ?_ (stopX Z info (outT wordO (k32 Z) info (i + 1)) (gT wordO (k32 Z) info i) info.length z (qF i + 32) (qF i + 32) (kk (i + 1))) (plX0 _ _ _)
      simp only [tF, sF]
      rw [stopXP]
      simp only [qF] at hq
      exact ⟨lss_eq (by simp; omega), trivial⟩
theorem cut_full {i n c z : Nat} (h : z ≤ c) : cut i 0 n c 1 none (some (.int .i64 (z : Int))) (some (.int .i64 (z : Int))) = some (.slice (some ⟨i, 0, none⟩) z z) := by
  unfold cut
  simp only [Option.isSome_some, Option.isNone_some, Bool.and_false, Bool.false_eq_true, if_false, bound?]
  rw [if_pos ⟨by omega, by omega⟩]
  simp
def hXf (m : Int) (c1 z q c : Nat) (Z : Nat → Int) (info o : List Int) : Hint := ⟨fun r i => match r, i with
  | 1, 1 => some (.pure (.bool false))
  | 3, 1 => some (.pure (.bool false))
  | 5, 1 => some (.pure (.int .i64 m))
  | 5, 2 => some (.eff (rowC 0 c1) (fun s => s ++ [byR [] (.row 1)]) [])
  | 14, 3 => some (.pure (.slice (some ⟨4, 0, none⟩) z z))
  | _, _ => none, fun r => if r = 8 then some ([1, 2, 3, 8, 9, 10], fun _ _ => some (.exit 1, tXe z q c, sX0 Z info o)) else none⟩
theorem expR (Z : Nat → Int) (info o : List Int) (m : Int) (c1 p z q c : Nat) : goFH xEs (hXf m c1 z q c Z info o) 0 Try.f18 (aX Z p (z : Int)) (sE info) = some (.tuple #[.slice (some ⟨4, 0, none⟩) z z, .int .i64 0], sX0 Z info o) := by kernel_rfl
theorem expP (Z : Nat → Int) (info o : List Int) (m : Int) (c1 p z q c : Nat) : owes xEs (hXf m c1 z q c Z info o) 0 Try.f18 (aX Z p (z : Int)) (sE info) =
    (aint .lss .i64 (z : Int) 0 = some (.bool false) ∧ aint .gtr .i64 (z : Int) 8160 = some (.bool false) ∧ aint .add .i64 (z : Int) 32 = some (.int .i64 m) ∧
     ((none : Option Value) = none ∧ effI (makeCore (sE info ++ [byR (k32 Z) .rw]) 1 (.int .u8 0) 0 m) none 4 = some (rowC 0 c1, sX0 Z info [], .eff [] 4)) ∧
     RunsP (.loop cX) (tX p z 0 c1 (.slice none 0 0) (kk 0)) (sX0 Z info []) (.exit 1) (tXe z q c) (sX0 Z info o) ∧
     cut 4 0 q c 1 none (some (.int .i64 (z : Int))) (some (.int .i64 (z : Int))) = some (.slice (some ⟨4, 0, none⟩) z z) ∧ True) := by kernel_rfl
def hXb (x : Bool) : Hint := ⟨fun r i => match r, i with
  | 1, 1 => some (.pure (.bool x))
  | 3, 1 => if x then none else some (.pure (.bool true))
  | _, _ => none, fun _ => none⟩
theorem expR1 (Z : Nat → Int) (info : List Int) (p : Nat) (m : Int) : goNH xEs (hXb true) 0 Try.f18 (aX Z p m) (sE info) = some (.tuple #[.slice none 0 0, .int .i64 2], sE info) := by kernel_rfl
theorem expP1 (Z : Nat → Int) (info : List Int) (p : Nat) (m : Int) : owes xEs (hXb true) 0 Try.f18 (aX Z p m) (sE info) = (aint .lss .i64 m 0 = some (.bool true) ∧ True) := by kernel_rfl
theorem expR2 (Z : Nat → Int) (info : List Int) (p : Nat) (m : Int) : goNH xEs (hXb false) 0 Try.f18 (aX Z p m) (sE info) = some (.tuple #[.slice none 0 0, .int .i64 5], sE info) := by kernel_rfl
theorem expP2 (Z : Nat → Int) (info : List Int) (p : Nat) (m : Int) : owes xEs (hXb false) 0 Try.f18 (aX Z p m) (sE info) = (aint .lss .i64 m 0 = some (.bool false) ∧ aint .gtr .i64 m 8160 = some (.bool true) ∧ True) := by kernel_rfl
def nblk (z : Nat) : Nat := (z + 31) / 32
/-- How many bytes of a place an answer's slice may come to hold. -/
def expRes (w : WD) (k info : List Int) (n : Int) : Value × St :=
  if n < 0 then (.tuple #[.slice none 0 0, .int .i64 2], sE info) else if 8160 < n then (.tuple #[.slice none 0 0, .int .i64 5], sE info) else
    (.tuple #[.slice (some ⟨3, 0, none⟩) n.toNat n.toNat, .int .i64 0], sE info ++ [byR (outT w k info (nblk n.toNat)) (.row 1)])
theorem expand_ac (Z : Nat → Int) {info : List Int} (n : Int) (hi : info.length ≤ 140737488351232) : AC Try.prog 18 (aX Z info.length n) (sE info) (expRes wordO (k32 Z) info n).1 (expRes wordO (k32 Z) info n).2 := by
  unfold expRes
  by_cases h1 : n < 0
  · rw [if_pos h1]
    refine runNH_ok xEs_ok Try.func18 (by kernel_rfl) ?_ (expR1 Z info _ n) rfl (plE3 info) rfl
    rw [expP1]; exact ⟨lss_eq (by simp; omega), trivial⟩
  · rw [if_neg h1]
    by_cases h2 : 8160 < n
    · rw [if_pos h2]
      refine runNH_ok xEs_ok Try.func18 (by kernel_rfl) ?_ (expR2 Z info _ n) rfl (plE3 info) rfl
      rw [expP2]; exact ⟨lss_eq (by simp; omega), gtr_eq (by simp; omega), trivial⟩
    · rw [if_neg h2]
      obtain ⟨z, rfl⟩ := Int.eq_ofNat_of_zero_le (show 0 ≤ n by omega)
      have hN : nblk z = (z + 31) / 32 := rfl
      have hc : z ≤ capF z (nblk z) := by
        have := qF_eq (nblk z)
        cases hq : nblk z with
        | zero => simp only [capF]; exact Nat.le_add_right _ _
        | succ i => rw [hq] at this; simp only [qF] at this; simp only [capF]; omega
      have hO := runH_ok xEs_ok Try.func18 (by kernel_rfl) (n := 0) (a := aX Z info.length (z : Int)) (s := sE info) (by
        rw [expP]
        refine ⟨lss_eq (by simp), gtr_eq (by simp; omega), add_i64 (by omega) (by omega), ⟨rfl, ?_⟩, loopX Z (nblk z) (by omega) (by omega) (by omega) hi, cut_full hc, trivial⟩
        unfold makeCore
        rw [if_pos (show plain0 (.int .u8 0) = true ∧ 1 ≠ 0 ∧ (0 : Int) ≤ 0 ∧ (0 : Int) ≤ ((z + 32 : Nat) : Int) ∧ ((1 : Nat) : Int) * ((z + 32 : Nat) : Int) ≤ 281474976710656 from ⟨rfl, Nat.one_ne_zero, Int.le_refl 0, by omega, by omega⟩)]
        rfl) (expR Z info (outT wordO (k32 Z) info (nblk z)) ((z + 32 : Nat) : Int) (z + 32) info.length z (qF (nblk z)) (capF z (nblk z)))
      refine view_plain hO [0, 1, 2, 4] rfl rfl rfl ?_ rfl
      have h0 : plainReg none = true := rfl
      simp only [sE, Int.toNat_natCast, List.cons_append, List.nil_append, List.all_cons, List.all_nil, byR, plainReg_u8, h0, Bool.and_true, Bool.and_self]
def expandSpec (w : WD) (args : List Value) (st : St) : Option (Value × St) :=
  match args, st with
  | [.agg cs, .slice (some ⟨1, 0, none⟩) m d, .int .i64 n], [none, some ⟨xs, .ro⟩, none] => match u8s cs.toList, u8s xs with
    | some k, some info => if k.length = 32 ∧ m = info.length ∧ d = info.length ∧ info.length ≤ 140737488351232 then some (expRes w k info n) else none
    | _, _ => none
  | _, _ => none
theorem k32_of {k : List Int} (h : k.length = 32) : k = k32 (fun i => k.getD i 0) := by
  apply List.ext_getElem?
  intro i
  unfold k32
  by_cases hi : i < 32
  · rw [List.getElem?_map, List.getElem?_range hi, getD_get (by omega)]; rfl
  · rw [List.getElem?_eq_none (by omega), List.getElem?_eq_none (by simp; omega)]
theorem expand_ac_sp {cs : Array Value} {m d : Nat} {n : Int} {xs : List Value} {k info : List Int} {r : Value} {s' : St} (hk : u8s cs.toList = some k) (hb : u8s xs = some info) (hc : k.length = 32 ∧ m = info.length ∧ d = info.length ∧ info.length ≤ 140737488351232)
    (hh : some (expRes wordO k info n) = some (r, s')) : AC Try.prog 18 [.agg cs, .slice (some ⟨1, 0, none⟩) m d, .int .i64 n] [none, some ⟨xs, .ro⟩, none] r s' := by
  obtain ⟨h1, rfl, rfl, h4⟩ := hc
  obtain ⟨rfl, rfl⟩ : (expRes wordO k info n).1 = r ∧ (expRes wordO k info n).2 = s' := by rw [Option.some.inj hh]; exact ⟨rfl, rfl⟩
  have e1 := u8s_spec hk
  have e2 : cs = ⟨k.map (.int .u8)⟩ := by cases cs; simp only at e1; rw [e1]
  have h := expand_ac (fun i => k.getD i 0) n h4
  unfold aX at h
  rw [← k32_of h1] at h
  rw [u8s_spec hb, e2]
  exact h
noncomputable def expandE : Entry := ⟨18, [.val, .sl false, .val], expandSpec wordO⟩
theorem expandE_ok : EntryOk Try.prog expandE := by
  refine ⟨fun a s r s' hh => ?_, body_of Try.func18 (by kernel_rfl) (by kernel_rfl)⟩
  simp only [expandE] at hh
  unfold expandSpec at hh
  split at hh
  · split at hh
    · rename_i k info hk hb
      split at hh
      · rename_i hc
        exact expand_ac_sp hk hb hc hh
      · cases hh
    · cases hh
  · cases hh
def kag (k : List Int) : Value := .agg ⟨k.map (.int .u8)⟩
theorem expandSpec_cells {w : WD} {k info : List Int} {n : Int} (h : k.length = 32) (hi : info.length ≤ 140737488351232) : expandSpec w [kag k, slR 1 info.length, .int .i64 n] (sE info) = some (expRes w k info n) := by
  simp only [expandSpec, kag, slR, sE, byR, u8s_map]
  rw [if_pos ⟨h, trivial, trivial, hi⟩]
end Go.Proofs.Ytmpcmefokjlknaa.Kd
