/- The law KdfSteps: the machine's run of it. Without conditions. -/
import Derived.Test.YtmpcmefokjlknaaKdG
import Derived.Test.YtmpcmefokjlknaaTab
namespace Go.Proofs.Ytmpcmefokjlknaa.Kd
open Am Run IntWalk Bl Byt

/-! KdfSteps -/
noncomputable def lsEs : List Entry := [copyBytesE, brE, hmacE, expandE, eqBytesE, kworksE]
theorem lsEs_ok : ∀ e ∈ lsEs, EntryOk Try.prog e := esc copyBytesE_ok (esc brE_ok (esc hmacE_ok (esc expandE_ok (esc eqBytesE_ok (es1 kworksE_ok)))))
noncomputable def cS : Code := loopOf 9 (body Try.f7)
def slc (o c : Nat) : Value := .slice (some ⟨4, o, none⟩) 32 c
def slS (p z n : Nat) (last : Value) (k : Nat) : List (Nat × Value) := [(1, slR 1 p), (2, .int .i64 (n : Int)), (3, pR 3), (7, sl0 4 z z), (9, last), (10, .int .i64 (k : Int))]
def tS (p z : Nat) (n : Nat) (last : Value) (k : Nat) : List Value := slots 62 (slS p z n last k)

/-! the region that draws its order: a tag's memory may be made before, between or behind the others' -/
noncomputable def cR : Code := regOf 12 (body Try.f7)
noncomputable def opsR : Array Oper := opsOf cR
theorem cR_eq : cR = .region 12 opsR true := by kernel_rfl
def nilR : Option Reg := some ⟨[], .rw⟩
def preS (Z : Nat → Int) (info B : List Int) : Bool → St
  | true => sX0 Z info B ++ [nilR, none]
  | false => sX0 Z info B ++ [none]
def mS : Bool → Nat
  | true => 7
  | false => 6
/-- How many of the chain's five were run; whether operations 0, 1, 7 were. -/
def cN (k : Nat) : Nat := if k = 48 then 5 else k % 6
def b0 (k : Nat) : Bool := k == 48 || (k / 6) % 2 == 1
def b1 (k : Nat) : Bool := k == 48 || (k / 12) % 2 == 1
def b7 (k : Nat) : Bool := k == 48 || (k / 24) % 2 == 1
def bn (b : Bool) : Nat := if b then 1 else 0
def okN (k : Nat) : Bool := (decide (cN k < 4) || b1 k) && (decide (cN k < 5) || b0 k)
def resR (g : V8) (k : Nat) : Option Reg := if k = 48 then byR (out8 g) .rw else if b7 k then zR else nilR
def tabS (q : Bool) (Z : Nat → Int) (info B a x : List Int) (p P z n kk : Nat) (last : Value) (g : V8) : TabD where
  nodes := ((List.range 48).filter okN) ++ [48]
  lst k := #[b0 k, b1 k, decide (1 ≤ cN k), decide (2 ≤ cN k), decide (3 ≤ cN k), decide (4 ≤ cN k), decide (5 ≤ cN k), b7 k, k == 48]
  lv k := if k = 48 then 0 else 9 - (cN k + bn (b0 k) + bn (b1 k) + bn (b7 k))
  t k := slots 62 ((if b0 k then [(44, slR 3 32)] else []) ++ (if b1 k then [(45, rowR (mS q) p)] else []) ++ (if 1 ≤ cN k then [(46, .int .i64 (kk : Int))] else []) ++ (if 2 ≤ cN k then [(47, .int .u8 (w8 kk))] else []) ++
    (if 3 ≤ cN k then [(48, rowR (mS q + 2) 1)] else []) ++ (if 4 ≤ cN k then [(49, rowR (mS q + 3) (p + 1))] else []) ++ (if 5 ≤ cN k then [(50, ag g)] else []) ++ (if b7 k then [(12, pR (mS q + 1))] else []) ++ slS P z n last kk ++ [(11, rowR (mS q) p)])
  s k := preS Z info B q ++ [if 4 ≤ cN k then none else byR a (.row 1)] ++ [resR g k] ++ (if 3 ≤ cN k then [byR [w8 kk] (.row 1)] else []) ++ (if 4 ≤ cN k then [byR x (.row 1)] else [])
  nx k i := if i = 0 then k + 6 else if i = 1 then k + 12 else if i = 7 then k + 24 else if i = 8 then 48 else k + 1
  ov k i := match i with
    | 5 => some (.eff (rowR (mS q + 3) (p + 1)) (fun s => s.set (mS q) none ++ [byR x (.row 1)]) [mS q])
    | 6 => some (.read (ag g) [3, mS q + 3])
    | _ => none
  ids k i := let L := mS q + 2 + (if 3 ≤ cN k then 1 else 0) + (if 4 ≤ cN k then 1 else 0)
    if i = 7 then List.range (mS q + 1) ++ [L] ++ List.range' (mS q + 2) (L - (mS q + 2)) else if i = 4 ∨ i = 5 then List.range (L + 1) else List.range L
  live := [1, 2, 3, 7, 9, 10, 11, 12, 44, 45, 46, 47, 48, 49, 50]
  s0 := preS Z info B q ++ [byR a (.row 1)]
  last := 48
theorem tabS_chk (Z : Nat → Int) (info B a x : List Int) (p P z n k : Nat) (last : Value) (g : V8) : ∀ q, (tabS q Z info B a x p P z n k last g).chk opsR = true
  | true => by kernel_rfl
  | false => by kernel_rfl
theorem tabS_V (Z : Nat → Int) (info B a x : List Int) (p P z n k : Nat) (g : V8) : ∀ q last, (last = .slice none 0 0 ∨ ∃ o c, last = slc o c) → tabV lsEs (tabS q Z info B a x p P z n k last g) opsR = tabE (tabS q Z info B a x p P z n k last g) opsR
  | true, _, .inl rfl => by kernel_rfl
  | false, _, .inl rfl => by kernel_rfl
  | true, _, .inr ⟨o, c, rfl⟩ => by kernel_rfl
  | false, _, .inr ⟨o, c, rfl⟩ => by kernel_rfl
def sP5 (q : Bool) (Z : Nat → Int) (info B a : List Int) (k : Nat) (r : Option Reg) : St := preS Z info B q ++ [byR a (.row 1), r, byR [w8 k] (.row 1)]
def sP6 (q : Bool) (Z : Nat → Int) (info B x : List Int) (k : Nat) (r : Option Reg) : St := preS Z info B q ++ [none, r, byR [w8 k] (.row 1), byR x (.row 1)]
def F5 (q : Bool) (Z : Nat → Int) (info B a x : List Int) (p k : Nat) (r : Option Reg) : Prop :=
  (none : Option Value) = none ∧ effI (appendCore (sP5 q Z info B a k r) 1 1 (.int .u8 0) (rowR (mS q) p) (source (sP5 q Z info B a k r) 1 (rowR (mS q + 2) 1))) none (mS q + 3) = some (rowR (mS q + 3) (p + 1), sP6 q Z info B x k r, .eff [mS q] (mS q + 3))
def F6 (q : Bool) (Z : Nat → Int) (info B x : List Int) (p k : Nat) (g : V8) (r : Option Reg) : Prop :=
  (none : Option Value) = none ∧ effI (callE [.sl false, .sl false] (h2Spec (hmacV wordO)) [slR 3 32, rowR (mS q + 3) (p + 1)] (sP6 q Z info B x k r)) (greads [.sl false, .sl false] [slR 3 32, rowR (mS q + 3) (p + 1)]) (mS q + 4) = some (ag g, sP6 q Z info B x k r, .load [3, mS q + 3])
theorem tabS_P (Z : Nat → Int) (info B a x : List Int) (p P z n k : Nat) (last : Value) (g : V8) : ∀ q, tabP lsEs (tabS q Z info B a x p P z n k last g) opsR =
    (F5 q Z info B a x p k nilR ∧ F5 q Z info B a x p k nilR ∧ F6 q Z info B x p k g nilR ∧ F5 q Z info B a x p k zR ∧ F5 q Z info B a x p k zR ∧ F6 q Z info B x p k g zR ∧ True)
  | true => by kernel_rfl
  | false => by kernel_rfl
theorem plainBut_nil : ∀ (l : St) (j : Nat), plainBut [] j l = l.all plainReg
  | [], _ => rfl
  | x :: l, j => by simp only [plainBut, List.all_cons, plainBut_nil l (j + 1)]; rfl
theorem plPre (Z : Nat → Int) (info B : List Int) : ∀ q, (preS Z info B q).all plainReg = true := by
  have h := plX0 Z info B
  rw [plainBut_nil] at h
  intro q
  cases q
  · simp only [preS, List.all_append, h]; rfl
  · simp only [preS, List.all_append, h]; rfl
theorem tabS_pl (Z : Nat → Int) (info B a x : List Int) (p P z n kk : Nat) (last : Value) (g : V8) (q : Bool) (k : Nat) : plainBut [] 0 ((tabS q Z info B a x p P z n kk last g).s k) = true := by
  have e1 : ∀ l kd, plainReg (byR l kd) = true := fun l kd => plainReg_u8 l kd
  have e2 : plainReg (resR g k) = true := by
    unfold resR
    split
    · exact e1 _ _
    · split <;> rfl
  have e3 : plainReg none = true := rfl
  rw [plainBut_nil]
  simp only [tabS, List.all_append, plPre, List.all_cons, List.all_nil, e2, Bool.and_true, Bool.true_and]
  split <;> split <;> simp only [e1, e3, List.all_cons, List.all_nil, Bool.and_true, Bool.and_self]
def tR0 (q : Bool) (p P z n kk : Nat) (last : Value) : List Value := slots 62 (slS P z n last kk ++ [(11, rowR (mS q) p)])
def tR1 (q : Bool) (p P z n kk : Nat) (last : Value) (g : V8) : List Value := (tabS q (fun _ => 0) [] [] [] [] p P z n kk last g).t 48
def sR1 (q : Bool) (Z : Nat → Int) (info B x : List Int) (kk : Nat) (g : V8) : St := preS Z info B q ++ [none, byR (out8 g) .rw, byR [w8 kk] (.row 1), byR x (.row 1)]
theorem regS {Z : Nat → Int} {info B a x : List Int} {p P z n kk : Nat} {last : Value} {g : V8} {q : Bool} (hl : last = .slice none 0 0 ∨ ∃ o c, last = slc o c) (h5 : ∀ r, F5 q Z info B a x p kk r) (h6 : ∀ r, F6 q Z info B x p kk g r) :
    RunsP cR (tR0 q p P z n kk last) (preS Z info B q ++ [byR a (.row 1)]) .normal (tR1 q p P z n kk last g) (sR1 q Z info B x kk g) := by
  have := tab_runs lsEs_ok cR_eq (D := tabS q Z info B a x p P z n kk last g) (tabS_chk _ _ _ _ _ _ _ _ _ _ _ _ _) (tabS_V _ _ _ _ _ _ _ _ _ _ _ _ _ hl) (by rw [tabS_P]; exact ⟨h5 _, h5 _, h6 _, h5 _, h5 _, h6 _, trivial⟩) (fun k _ => tabS_pl _ _ _ _ _ _ _ _ _ _ _ _ _ k)
    (k0 := 0) (show 0 ∈ ((List.range 48).filter okN) ++ [48] by decide) (by cases q <;> kernel_rfl) (Nat.le_of_eq (by cases q <;> kernel_rfl)) (by cases q <;> rfl)
  cases q <;> exact this
def hS0 (p z n j lo c : Nat) (info x : List Int) (Z : Nat → Int) (B : List Int) (g : V8) : Hint := ⟨fun r i => match r, i with
  | 9, 2 => some (.pure (.bool true))
  | 11, 3 => some (.eff (rowR 7 p) (fun s => s.set 6 none ++ [byR info (.row 1)]) [6])
  | 13, 2 => some (.pure (.int .i64 (j : Int)))
  | 13, 3 => some (.pure (.int .i64 (lo : Int)))
  | 13, 5 => some (.pure (.int .i64 ((lo + 32 : Nat) : Int)))
  | 13, 6 => some (.pure (slc lo c))
  | 14, 2 => some (.read (.bool true) [8, 4])
  | 10, 1 => some (.pure (.int .i64 ((j + 2 : Nat) : Int)))
  | _, _ => none, fun r => if r = 1000012 then some ([1, 2, 3, 7, 9, 10, 11], fun _ _ => some (.normal, tR1 true p p z n (j + 1) (.slice none 0 0) g, sR1 true Z info B x (j + 1) g)) else none⟩
def sF1 (Z : Nat → Int) (info B : List Int) : St := sX0 Z info B ++ [some ⟨[], .rw⟩] ++ [byR [] (.row 1)]
theorem stepS0 (Z : Nat → Int) (info B x : List Int) (p z n j lo c : Nat) (g : V8) : stepV lsEs (hS0 p z n j lo c info x Z B g) 0 cS (List.range 5) [] [1, 2, 3, 7, 9, 10] (tS p z n (.slice none 0 0) (j + 1)) (sX0 Z info B) = some (.normal, tS p z n (slc lo c) (j + 2), sX0 Z info B) := by kernel_rfl
theorem stepS0P (Z : Nat → Int) (info B x : List Int) (p z n j lo c : Nat) (g : V8) : stepP lsEs (hS0 p z n j lo c info x Z B g) 0 cS (tS p z n (.slice none 0 0) (j + 1)) (sX0 Z info B) =
    (aint .leq .i64 ((j + 1 : Nat) : Int) (n : Int) = some (.bool true) ∧
     ((none : Option Value) = none ∧ effI (appendCore (sF1 Z info B) 1 1 (.int .u8 0) (rowR 6 0) (source (sF1 Z info B) 1 (slR 1 p))) none 7 = some (rowR 7 p, preS Z info B true ++ [byR info (.row 1)], .eff [6] 7)) ∧
     RunsP cR (tR0 true p p z n (j + 1) (.slice none 0 0)) (preS Z info B true ++ [byR info (.row 1)]) .normal (tR1 true p p z n (j + 1) (.slice none 0 0) g) (sR1 true Z info B x (j + 1) g) ∧
     aint .sub .i64 ((j + 1 : Nat) : Int) 1 = some (.int .i64 (j : Int)) ∧ aint .mul .i64 32 (j : Int) = some (.int .i64 (lo : Int)) ∧ aint .mul .i64 32 ((j + 1 : Nat) : Int) = some (.int .i64 ((lo + 32 : Nat) : Int)) ∧
     cut 4 0 z z 1 (some (.int .i64 (lo : Int))) (some (.int .i64 ((lo + 32 : Nat) : Int))) none = some (slc lo c) ∧
     ((none : Option Value) = none ∧ effI (callE eqBytesE.ks eqBytesE.spec [slR 8 32, slc lo c] (sR1 true Z info B x (j + 1) g)) (greads eqBytesE.ks [slR 8 32, slc lo c]) 11 = some (.bool true, sR1 true Z info B x (j + 1) g, .load [8, 4])) ∧
     aint .add .i64 ((j + 1 : Nat) : Int) 1 = some (.int .i64 ((j + 2 : Nat) : Int)) ∧ True) := by kernel_rfl
def hS (p z n j lo c o c0 : Nat) (x1 x : List Int) (Z : Nat → Int) (info B : List Int) (h g : V8) : Hint := ⟨fun r i => match r, i with
  | 9, 2 => some (.pure (.bool true))
  | 11, 1 => some (.eff (rowR 5 32) (fun s => s ++ [byR (out8 h) (.row 1)]) [])
  | 11, 3 => some (.eff (rowR 6 (32 + p)) (fun s => s.set 5 none ++ [byR x1 (.row 1)]) [5])
  | 13, 2 => some (.pure (.int .i64 (j : Int)))
  | 13, 3 => some (.pure (.int .i64 (lo : Int)))
  | 13, 5 => some (.pure (.int .i64 ((lo + 32 : Nat) : Int)))
  | 13, 6 => some (.pure (slc lo c))
  | 14, 2 => some (.read (.bool true) [7, 4])
  | 10, 1 => some (.pure (.int .i64 ((j + 2 : Nat) : Int)))
  | _, _ => none, fun r => if r = 1000012 then some ([1, 2, 3, 7, 9, 10, 11], fun _ _ => some (.normal, tR1 false (32 + p) p z n (j + 1) (slc o c0) g, sR1 false Z info B x (j + 1) g)) else none⟩
def sJ1 (Z : Nat → Int) (info B : List Int) (h : V8) : St := sX0 Z info B ++ [byR (out8 h) (.row 1)]
theorem stepS (Z : Nat → Int) (info B x1 x : List Int) (p z n j lo c o c0 : Nat) (h g : V8) : stepV lsEs (hS p z n j lo c o c0 x1 x Z info B h g) 0 cS (List.range 5) [] [1, 2, 3, 7, 9, 10] (tS p z n (slc o c0) (j + 1)) (sX0 Z info B) = some (.normal, tS p z n (slc lo c) (j + 2), sX0 Z info B) := by kernel_rfl
theorem stepSP (Z : Nat → Int) (info B x1 x : List Int) (p z n j lo c o c0 : Nat) (h g : V8) : stepP lsEs (hS p z n j lo c o c0 x1 x Z info B h g) 0 cS (tS p z n (slc o c0) (j + 1)) (sX0 Z info B) =
    (aint .leq .i64 ((j + 1 : Nat) : Int) (n : Int) = some (.bool true) ∧
     ((none : Option Value) = none ∧ effI (callE copyBytesE.ks copyBytesE.spec [slc o c0] (sX0 Z info B)) (greads copyBytesE.ks [slc o c0]) 5 = some (rowR 5 32, sJ1 Z info B h, .eff [] 5)) ∧
     ((none : Option Value) = none ∧ effI (appendCore (sJ1 Z info B h) 1 1 (.int .u8 0) (rowR 5 32) (source (sJ1 Z info B h) 1 (slR 1 p))) none 6 = some (rowR 6 (32 + p), preS Z info B false ++ [byR x1 (.row 1)], .eff [5] 6)) ∧
     RunsP cR (tR0 false (32 + p) p z n (j + 1) (slc o c0)) (preS Z info B false ++ [byR x1 (.row 1)]) .normal (tR1 false (32 + p) p z n (j + 1) (slc o c0) g) (sR1 false Z info B x (j + 1) g) ∧
     aint .sub .i64 ((j + 1 : Nat) : Int) 1 = some (.int .i64 (j : Int)) ∧ aint .mul .i64 32 (j : Int) = some (.int .i64 (lo : Int)) ∧ aint .mul .i64 32 ((j + 1 : Nat) : Int) = some (.int .i64 ((lo + 32 : Nat) : Int)) ∧
     cut 4 0 z z 1 (some (.int .i64 (lo : Int))) (some (.int .i64 ((lo + 32 : Nat) : Int))) none = some (slc lo c) ∧
     ((none : Option Value) = none ∧ effI (callE eqBytesE.ks eqBytesE.spec [slR 7 32, slc lo c] (sR1 false Z info B x (j + 1) g)) (greads eqBytesE.ks [slR 7 32, slc lo c]) 10 = some (.bool true, sR1 false Z info B x (j + 1) g, .load [7, 4])) ∧
     aint .add .i64 ((j + 1 : Nat) : Int) 1 = some (.int .i64 ((j + 2 : Nat) : Int)) ∧ True) := by kernel_rfl
def hSe : Hint := ⟨fun r i => match r, i with
  | 9, 2 => some (.pure (.bool false))
  | _, _ => none, fun _ => none⟩
theorem stopS (Z : Nat → Int) (info B : List Int) (p z n k o c : Nat) : stepV lsEs hSe 0 cS (List.range 5) [] [] (tS p z n (slc o c) k) (sX0 Z info B) = some (.exit 0, slots 62 [], sX0 Z info B) := by kernel_rfl
theorem stopSP (Z : Nat → Int) (info B : List Int) (p z n k o c : Nat) : stepP lsEs hSe 0 cS (tS p z n (slc o c) k) (sX0 Z info B) = (aint .leq .i64 (k : Int) (n : Int) = some (.bool false) ∧ True) := by kernel_rfl
theorem cut_32 {i n a : Nat} (h : a + 32 ≤ n) : cut i 0 n n 1 (some (.int .i64 (a : Int))) (some (.int .i64 ((a + 32 : Nat) : Int))) none = some (.slice (some ⟨i, a, none⟩) 32 (n - a)) := by
  unfold cut
  simp only [Option.isSome_none, Bool.false_and, Bool.false_eq_true, if_false, bound?, Nat.le_refl, if_true]
  rw [if_pos ⟨by omega, by omega⟩]
  simp only
  rw [if_pos ⟨by omega, by omega⟩]
  simp
  omega
def tSi (p z n : Nat) : Nat → List Value
  | 0 => tS p z n (.slice none 0 0) 1
  | i + 1 => tS p z n (slc (32 * i) (z - 32 * i)) (i + 2)
theorem leq_eq {k : IntKind} {a b : Int} {t : Bool} (h : decide (a ≤ b) = t) : aint .leq k a b = some (.bool t) := by simp [aint, h]
theorem loopS (Z : Nat → Int) {info : List Int} {n : Nat} (hn : 1 ≤ n ∧ n ≤ 9) (hi : info.length ≤ 140737488351232) :
    RunsP (.loop cS) (tS info.length (32 * n) n (.slice none 0 0) 1) (sX0 Z info (outT wordO (k32 Z) info n)) (.exit 0) (slots 62 []) (sX0 Z info (outT wordO (k32 Z) info n)) := by
  have hl := outT_length wordO (k32 Z) info n
  have hB : ∀ {st : St} {i : Nat}, st[4]? = some (byR (outT wordO (k32 Z) info n) (.row 1)) → i < n → Bys st (slc (32 * i) (32 * n - 32 * i)) 4 (32 * i) (out8 (gT wordO (k32 Z) info i)) := by
    intro st i h hin
    have := Bys.part (st := st) (i := 4) (off := 32 * i) (n := 32) (c := 32 * n - 32 * i) h (by omega) (by omega)
    rw [outT_at hin] at this
    exact this
  refine Runs.count n (tSi info.length (32 * n) n) (fun _ => sX0 Z info (outT wordO (k32 Z) info n)) (e := .exit 0) (fun i hin => ?_) ?_ (by simp)
  · cases i with
    | zero =>
      refine step_ok lsEs_ok ?_ (stepS0 Z info (outT wordO (k32 Z) info n) (info ++ [kk 0]) info.length (32 * n) n 0 (32 * 0) (32 * n - 32 * 0) (gT wordO (k32 Z) info 0)) (plX0 _ _ _)
      simp only [tSi]
      rw [stepS0P]
      refine ⟨leq_eq (by simp; omega), ⟨rfl, ?_⟩, regS (.inl rfl) (fun r => ⟨rfl, ?_⟩) (fun r => ⟨rfl, ?_⟩), sub_i64 (by omega) (by omega), mul_i64 (by omega) (by omega), mul_i64 (by omega) (by omega), cut_32 (by omega), ⟨rfl, ?_⟩, add_i64 (by omega) (by omega), trivial⟩
      · rw [app_info (n := 0) (a := []) (r := info) rfl rfl rfl rfl (Nat.zero_add _) (by omega)]; rfl
      · rw [app_one (a := info) (k := w8 1) (r := info ++ [kk 0]) rfl rfl rfl rfl (by omega)]; rfl
      · exact owe_h2 (b := info ++ [kk 0]) (k32_bys Z rfl) (row_bytes rfl (by simp)) (by rw [k32_length]; omega) (by simp; omega) rfl
      · exact eq_self (b := out8 (gT wordO (k32 Z) info 0)) (Bys.all (i := 8) (l := out8 (gT wordO (k32 Z) info 0)) rfl) (hB rfl hin) (by rw [out8_length]; decide) rfl
    | succ i =>
      have hg := out8_length (gT wordO (k32 Z) info i)
      refine step_ok lsEs_ok ?_ (stepS Z info (outT wordO (k32 Z) info n) (out8 (gT wordO (k32 Z) info i) ++ info) (out8 (gT wordO (k32 Z) info i) ++ info ++ [kk (i + 1)]) info.length (32 * n) n (i + 1) (32 * (i + 1)) (32 * n - 32 * (i + 1)) (32 * i) (32 * n - 32 * i) (gT wordO (k32 Z) info i) (gT wordO (k32 Z) info (i + 1))) (plX0 _ _ _)
      simp only [tSi]
      rw [stepSP]
      refine ⟨leq_eq (by simp; omega), ⟨rfl, ?_⟩, ⟨rfl, ?_⟩, regS (.inr ⟨_, _, rfl⟩) (fun r => ⟨rfl, ?_⟩) (fun r => ⟨rfl, ?_⟩), sub_i64 (by omega) (by omega), mul_i64 (by omega) (by omega), mul_i64 (by omega) (by omega), cut_32 (by omega), ⟨rfl, ?_⟩, add_i64 (by omega) (by omega), trivial⟩
      · exact owe_copy (hB (i := i) rfl (by omega)) (by rw [hg]; omega) rfl
      · rw [app_info (n := 32) (a := out8 (gT wordO (k32 Z) info i)) (r := out8 (gT wordO (k32 Z) info i) ++ info) rfl rfl rfl rfl rfl (by omega)]; rfl
      · rw [app_one (a := out8 (gT wordO (k32 Z) info i) ++ info) (k := w8 (i + 2)) (r := out8 (gT wordO (k32 Z) info i) ++ info ++ [kk (i + 1)]) rfl (by rw [List.length_append, hg]) rfl rfl (by omega)]; rfl
      · exact owe_h2 (b := out8 (gT wordO (k32 Z) info i) ++ info ++ [kk (i + 1)]) (k32_bys Z rfl) (row_bytes rfl (by simp [hg]; omega)) (by rw [k32_length]; omega) (by simp [hg]; omega) rfl
      · exact eq_self (b := out8 (gT wordO (k32 Z) info (i + 1))) (Bys.all (i := 7) (l := out8 (gT wordO (k32 Z) info (i + 1))) rfl) (hB rfl hin) (by rw [out8_length]; decide) rfl
  · cases n with
    | zero => omega
    | succ i =>
      refine step_ok lsEs_ok ?_ (stopS Z info _ info.length (32 * (i + 1)) (i + 1) (i + 2) (32 * i) (32 * (i + 1) - 32 * i)) (plX0 _ _ _)
      simp only [tSi]
      rw [stopSP]
      exact ⟨leq_eq (by simp), trivial⟩
def hSf (b : Int) (n z : Nat) (Z : Nat → Int) (info B : List Int) : Hint := ⟨fun r i => match r, i with
  | 3, 1 => some (.read (.int .i64 b) [])
  | 3, 2 => some (.pure (.int .i64 (n : Int)))
  | 4, 3 => some (.pure (.int .i64 (z : Int)))
  | 4, 4 => some (.eff (.tuple #[sl0 4 z z, .int .i64 0]) (fun s => s ++ [byR B (.row 1)]) [])
  | 5, 6 => some (.pure (.int .i64 (z : Int)))
  | 5, 7 => some (.pure (.bool false))
  | _, _ => none, fun r => if r = 9 then some ([1, 2, 3, 7, 9, 10], fun _ _ => some (.exit 0, slots 62 [], sX0 Z info B)) else none⟩
def br9 (x : Int) : List Value := [.int .i64 x, .int .i64 9]
theorem lsR (Z : Nat → Int) (info B : List Int) (x b : Int) (p n z : Nat) : goNH lsEs (hSf b n z Z info B) 0 Try.f7 (aX Z p x) (sE info) = some (.bool true, sE info) := by kernel_rfl
theorem lsP (Z : Nat → Int) (info B : List Int) (x b : Int) (p n z : Nat) : owes lsEs (hSf b n z Z info B) 0 Try.f7 (aX Z p x) (sE info) =
    (((none : Option Value) = none ∧ effI (callE brE.ks brE.spec (br9 x) (s4 Z info)) (greads brE.ks (br9 x)) 4 = some (.int .i64 b, s4 Z info, .load [])) ∧
     aint .add .i64 1 b = some (.int .i64 (n : Int)) ∧ aint .mul .i64 32 (n : Int) = some (.int .i64 (z : Int)) ∧
     ((none : Option Value) = none ∧ effI (callE xKs (expandSpec wordO) (xArgs (k32 Z) (slR 1 p) (z : Int)) (s4 Z info)) (greads xKs (xArgs (k32 Z) (slR 1 p) (z : Int))) 4 = some (.tuple #[sl0 4 z z, .int .i64 0], sX0 Z info B, .eff [] 4)) ∧
     aint .mul .i64 32 (n : Int) = some (.int .i64 (z : Int)) ∧ aint .neq .i64 (z : Int) (z : Int) = some (.bool false) ∧
     RunsP (.loop cS) (tS p z n (.slice none 0 0) 1) (sX0 Z info B) (.exit 0) (slots 62 []) (sX0 Z info B) ∧ True) := by kernel_rfl
theorem lawSteps (Z : Nat → Int) (info : List Int) (x : Int) (hi : info.length ≤ 140737488351232) : AC Try.prog 7 (aX Z info.length x) (sE info) (.bool true) (sE info) := by
  have h0 := Int.emod_nonneg x (show (9 : Int) ≠ 0 by decide)
  have h9 := Int.emod_lt_of_pos x (show (0 : Int) < 9 by decide)
  obtain ⟨n, hn⟩ := Int.eq_ofNat_of_zero_le (show 0 ≤ 1 + x % 9 by omega)
  have hN : nblk (32 * n) = n := by unfold nblk; omega
  refine runNH_ok lsEs_ok Try.func7 (by kernel_rfl) ?_ (lsR Z info (outT wordO (k32 Z) info n) x (x % 9) info.length n (32 * n)) rfl (plE3 info) rfl
  rw [lsP]
  refine ⟨⟨rfl, owe_bring ⟨by decide, by decide⟩ rfl⟩, add_i64 (by omega) (by omega), mul_i64 (by omega) (by omega), ⟨rfl, ?_⟩, mul_i64 (by omega) (by omega), neq_same _, loopS Z (by omega) hi, trivial⟩
  have := owe_expand (st := s4 Z info) (z := 32 * n) (len := 4) (k32_length Z) (Bys.all (i := 1) (l := info) rfl) hi (by omega) rfl
  rw [hN] at this
  exact this
end Go.Proofs.Ytmpcmefokjlknaa.Kd
