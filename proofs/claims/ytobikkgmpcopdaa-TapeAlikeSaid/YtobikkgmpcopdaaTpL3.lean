/- Laws of tapes: TapeAlike, TapeDraws. Without conditions. -/
import Derived.Test.YtobikkgmpcopdaaTpL2
namespace Go.Proofs.Ytobikkgmpcopdaa.Tp
open Am Run IntWalk Bl Byt Kd

def byI (l : List Int) : Option Reg := some ⟨l.map (.int .i64), .ro⟩
theorem cell_i64 {st : St} {i k : Nat} {l : List Int} {x : Int} (h : st[i]? = some (byI l)) (hx : l[k]? = some x) : cellAt st i k = some (.int .i64 x, i) := by
  unfold cellAt
  rw [h]
  simp only [byI, List.getElem?_map, hx, Option.map_some]
theorem plain_i64 (l : List Int) : (l.map (Value.int .i64)).all plain0 = true := by
  induction l with
  | nil => rfl
  | cons a r ih => simp only [List.map_cons, List.all_cons, ih, Bool.and_true]; rfl
theorem plain_byI (l : List Int) : plainReg (byI l) = true := plain_i64 l

/-! TapeAlike -/
noncomputable def alEs : List Entry := [wkE, newTE, brE, keyE, numE, sevE, cntE]
theorem alEs_ok : ∀ e ∈ alEs, EntryOk Try.prog e := esc wkE_ok (esc newTE_ok (esc brE_ok (esc keyE_ok (esc numE_ok (esc sevE_ok (es1 cntE_ok))))))
noncomputable def cAl : Code := loopOf 5 (body Try.f5)
def tAl (p : Nat) (x : Int) : List Value := slots 65 [(1, slR 1 p), (5, pR 3), (6, pR 4), (7, .int .i64 x)]
def tAl1 : List Value := slots 65 [(5, pR 3), (6, pR 4)]
def sAl (Z : Nat → Int) (l : List Int) (a b : Int) (q : St) : St := none :: byI l :: byR (k32 Z) .rw :: tpR Z a :: tpR Z b :: q
def hAl (Z : Nat → Int) (i : Nat) (i1 v b m x s : Int) (g : V8) : Hint := ⟨fun r k => match r, k with
  | 5, 3 => some (.pure (.bool true))
  | 5, 6 => some (.pure (.bool true))
  | 7, 2 => some (.pure (.pointer (some ⟨1, i, none⟩)))
  | 7, 3 => some (.load (.int .i64 v) 1)
  | 7, 4 => some (.read (.int .i64 b) [])
  | 7, 5 => some (.pure (.int .i64 m))
  | 8, 1 => some (.eff (keyV g) (fun s => s.set 3 (tpR Z i1)) [3])
  | 9, 2 => some (.eff (numV x) (fun s => s.set 4 (tpR Z i1)) [4])
  | 10, 9 => some (.read (.int .i64 s) [])
  | 10, 11 => some (.pure (.int .i64 x))
  | 10, 12 => some (.pure (.bool false))
  | 6, 1 => some (.pure (.int .i64 i1))
  | _, _ => none, fun _ => none⟩
def hEnd (r0 : Nat) (more : Bool) : Hint := ⟨fun r k => if r = r0 then (match k with
  | 3 => some (.pure (.bool more))
  | 6 => if more then some (.pure (.bool false)) else none
  | _ => none) else none, fun _ => none⟩
theorem stepAl (Z : Nat → Int) (l : List Int) (p i : Nat) (x0 i1 v b m x s : Int) (g : V8) : stepV alEs (hAl Z i i1 v b m x s g) 0 cAl (List.range 5) [] [1, 5, 6, 7] (tAl p (i : Int)) (sAl Z l x0 x0 []) = some (.normal, tAl p i1, sAl Z l i1 i1 []) := by kernel_rfl
theorem stepAlP (Z : Nat → Int) (l : List Int) (p i : Nat) (x0 i1 v b m x s : Int) (g : V8) : stepP alEs (hAl Z i i1 v b m x s g) 0 cAl (tAl p (i : Int)) (sAl Z l x0 x0 []) =
    (aint .lss .i64 (i : Int) (p : Int) = some (.bool true) ∧ aint .lss .i64 (i : Int) 100 = some (.bool true) ∧
     idxAt 1 0 1 p (i : Int) = some (.pointer (some ⟨1, i, none⟩)) ∧ cellAt (sAl Z l x0 x0 []) 1 i = some (.int .i64 v, 1) ∧
     ((none : Option Value) = none ∧ effI (callE brE.ks brE.spec (bigA v) (sAl Z l x0 x0 [])) (greads brE.ks (bigA v)) 5 = some (.int .i64 b, sAl Z l x0 x0 [], .load [])) ∧
     aint .add .i64 1 b = some (.int .i64 m) ∧
     ((none : Option Value) = none ∧ effI (callE keyE.ks keyE.spec [pR 3] (sAl Z l x0 x0 [])) (greads keyE.ks [pR 3]) 5 = some (keyV g, sAl Z l i1 x0 [], .eff [3] 5)) ∧
     ((none : Option Value) = none ∧ effI (callE numE.ks numE.spec [pR 4, .int .i64 m] (sAl Z l i1 x0 [byR (out8 g) .rw])) (greads numE.ks [pR 4, .int .i64 m]) 6 = some (numV x, sAl Z l i1 i1 [byR (out8 g) .rw], .eff [4] 6)) ∧
     ((none : Option Value) = none ∧ effI (callE sevE.ks sevE.spec [ag g] (sAl Z l i1 i1 [byR (out8 g) .rw])) (greads sevE.ks [ag g]) 6 = some (.int .i64 s, sAl Z l i1 i1 [byR (out8 g) .rw], .load [])) ∧
     aint .rem .i64 s m = some (.int .i64 x) ∧ aint .neq .i64 x x = some (.bool false) ∧ aint .add .i64 (i : Int) 1 = some (.int .i64 i1) ∧ True) := by kernel_rfl
theorem stopAlA (Z : Nat → Int) (l : List Int) (p : Nat) (x x0 : Int) : stepV alEs (hEnd 5 false) 0 cAl (List.range 5) [] [5, 6] (tAl p x) (sAl Z l x0 x0 []) = some (.exit 0, tAl1, sAl Z l x0 x0 []) := by kernel_rfl
theorem stopAlAP (Z : Nat → Int) (l : List Int) (p : Nat) (x x0 : Int) : stepP alEs (hEnd 5 false) 0 cAl (tAl p x) (sAl Z l x0 x0 []) = (aint .lss .i64 x (p : Int) = some (.bool false) ∧ True) := by kernel_rfl
theorem stopAlB (Z : Nat → Int) (l : List Int) (p : Nat) (x x0 : Int) : stepV alEs (hEnd 5 true) 0 cAl (List.range 5) [] [5, 6] (tAl p x) (sAl Z l x0 x0 []) = some (.exit 0, tAl1, sAl Z l x0 x0 []) := by kernel_rfl
theorem stopAlBP (Z : Nat → Int) (l : List Int) (p : Nat) (x x0 : Int) : stepP alEs (hEnd 5 true) 0 cAl (tAl p x) (sAl Z l x0 x0 []) = (aint .lss .i64 x (p : Int) = some (.bool true) ∧ aint .lss .i64 x 100 = some (.bool false) ∧ True) := by kernel_rfl
theorem plAl (Z : Nat → Int) (l : List Int) (a b : Int) : plainBut [] 0 (sAl Z l a b []) = true := by
  have e1 : plainReg (byR (k32 Z) .rw) = true := rfl
  have e2 : ∀ c, plainReg (tpR Z c) = true := fun _ => rfl
  have e3 : plainReg none = true := rfl
  simp only [sAl, plainBut, plain_byI, e1, e2, e3, Bool.or_true, Bool.and_true]
theorem loopAl (Z : Nat → Int) (l : List Int) (k : Nat) (hk : k = min l.length 100) : RunsP (.loop cAl) (tAl l.length 0) (sAl Z l 0 0 []) (.exit 0) tAl1 (sAl Z l (k : Int) (k : Int) []) := by
  refine Runs.count k (fun i => tAl l.length (i : Int)) (fun i => sAl Z l (i : Int) (i : Int) []) (fun i hi => ?_) ?_ (by simp)
  · have hv : l[i]? = some (l.getD i 0) := getD_get (by omega)
    have h0 := Int.emod_nonneg (l.getD i 0) (show (9007199254740991 : Int) ≠ 0 by decide)
    have h1 := Int.emod_lt_of_pos (l.getD i 0) (show (0 : Int) < 9007199254740991 by decide)
    refine step_ok alEs_ok ?_ (stepAl Z l l.length i (i : Int) ((i + 1 : Nat) : Int) (l.getD i 0) (l.getD i 0 % 9007199254740991) (1 + l.getD i 0 % 9007199254740991) (nT wordO Z (i : Int) % (1 + l.getD i 0 % 9007199254740991)) (nT wordO Z (i : Int)) (dgv wordO (inL Z (i : Int)))) (plAl Z l _ _)
    rw [stepAlP]
    exact ⟨lss_eq (by simp; omega), lss_eq (by simp; omega), idx_ok0 (by omega), cell_i64 rfl hv, ⟨rfl, owe_bring (by omega) rfl⟩, add_i64 rfl (by omega), ⟨rfl, owe_key (p := 3) rfl (by omega) (by omega)⟩, ⟨rfl, owe_num (p := 4) rfl (by omega) (by omega) (by omega) (by omega)⟩, ⟨rfl, owe_sev rfl⟩, rem_pos (nT_bound _ _ _).1 (by omega) rfl, neq_self _ _, add_i64 (by omega) (by omega), trivial⟩
  · by_cases hp : l.length ≤ 100
    · refine step_ok alEs_ok ?_ (stopAlA Z l l.length (k : Int) (k : Int)) (plAl Z l _ _)
      rw [stopAlAP]
      exact ⟨lss_eq (by simp; omega), trivial⟩
    · refine step_ok alEs_ok ?_ (stopAlB Z l l.length (k : Int) (k : Int)) (plAl Z l _ _)
      rw [stopAlBP]
      exact ⟨lss_eq (by simp; omega), lss_eq (by simp; omega), trivial⟩
def hAlL (Z : Nat → Int) (l : List Int) (c : Int) : Hint := ⟨fun r k => match r, k with
  | 12, 4 => some (.pure (.bool true))
  | _, _ => none, fun r => if r = 5 then some ([1, 5, 6, 7], fun _ _ => some (.exit 0, tAl1, sAl Z l c c [])) else none⟩
def aAl (Z : Nat → Int) (p : Nat) : List Value := [kag (k32 Z), slR 1 p]
theorem alR (Z : Nat → Int) (l : List Int) (p : Nat) (c : Int) : goNH alEs (hAlL Z l c) 0 Try.f5 (aAl Z p) [none, byI l] = some (.bool true, [none, byI l]) := by kernel_rfl
theorem alP (Z : Nat → Int) (l : List Int) (p : Nat) (c : Int) : owes alEs (hAlL Z l c) 0 Try.f5 (aAl Z p) [none, byI l] =
    (RunsP (.loop cAl) (tAl p 0) (sAl Z l 0 0 []) (.exit 0) tAl1 (sAl Z l c c []) ∧ aint .eql .i64 c c = some (.bool true) ∧ True) := by kernel_rfl
theorem lawAlike (Z : Nat → Int) (l : List Int) : AC Try.prog 5 [kag (k32 Z), slR 1 l.length] [none, byI l] (.bool true) [none, byI l] := by
  refine runNH_ok alEs_ok Try.func5 (by kernel_rfl) ?_ (alR Z l l.length ((min l.length 100 : Nat) : Int)) rfl ?_ rfl
  · change owes alEs (hAlL Z l ((min l.length 100 : Nat) : Int)) 0 _ (aAl Z l.length) [none, byI l]
    rw [alP]
    exact ⟨loopAl Z l _ rfl, eql_self _ _, trivial⟩
  · simp only [List.all_cons, List.all_nil, plain_byI, Bool.and_true]; rfl

/-! TapeDraws -/
noncomputable def drEs : List Entry := [wkE, newTE, rnewTE, keyE, rkeyE, numE, rnumE, cntE]
theorem drEs_ok : ∀ e ∈ drEs, EntryOk Try.prog e := esc wkE_ok (esc newTE_ok (esc rnewTE_ok (esc keyE_ok (esc rkeyE_ok (esc numE_ok (esc rnumE_ok (es1 cntE_ok)))))))
noncomputable def cDr : Code := loopOf 4 (body Try.f3)
def tDr (p : Nat) (x : Int) : List Value := slots 92 [(1, slR 1 p), (5, pR 3), (6, pR 4), (7, pR 5), (8, .int .i64 x)]
def sDr (Z : Nat → Int) (l : List Int) (a b o : Int) (q : St) : St := none :: byI l :: byR (k32 Z) .rw :: tpR Z a :: rtR Z b :: tpR Z o :: q
def hDrK (Z : Nat → Int) (i : Nat) (i1 v c1 : Int) (go g : V8) : Hint := ⟨fun r k => match r, k with
  | 4, 3 => some (.pure (.bool true))
  | 4, 6 => some (.pure (.bool true))
  | 6, 1 => some (.eff (keyV go) (fun s => s.set 5 (tpR Z i1)) [5])
  | 7, 2 => some (.pure (.pointer (some ⟨1, i, none⟩)))
  | 7, 3 => some (.load (.int .i64 v) 1)
  | 7, 4 => some (.pure (.bool true))
  | 8, 1 => some (.eff (keyV g) (fun s => s.set 3 (tpR Z c1)) [3])
  | 9, 1 => some (.eff (keyV g) (fun s => s.set 4 (rtR Z c1)) [4])
  | 10, 2 => some (.pure (.bool false))
  | 16, 6 => some (.pure (.bool false))
  | 5, 1 => some (.pure (.int .i64 i1))
  | _, _ => none, fun _ => none⟩
def resV (x : Int) (e : Bool) : Value := if e then numV x else badV
def hDrN (Z : Nat → Int) (i : Nat) (i1 v c1 x : Int) (e : Bool) (go : V8) : Hint := ⟨fun r k => match r, k with
  | 4, 3 => some (.pure (.bool true))
  | 4, 6 => some (.pure (.bool true))
  | 6, 1 => some (.eff (keyV go) (fun s => s.set 5 (tpR Z i1)) [5])
  | 7, 2 => some (.pure (.pointer (some ⟨1, i, none⟩)))
  | 7, 3 => some (.load (.int .i64 v) 1)
  | 7, 4 => some (.pure (.bool false))
  | 12, 3 => some (.pure (.pointer (some ⟨1, i, none⟩)))
  | 12, 4 => some (.load (.int .i64 v) 1)
  | 12, 5 => some (.eff (resV x e) (fun s => s.set 3 (tpR Z c1)) [3])
  | 13, 3 => some (.pure (.pointer (some ⟨1, i, none⟩)))
  | 13, 4 => some (.load (.int .i64 v) 1)
  | 13, 5 => some (.eff (resV x e) (fun s => s.set 4 (rtR Z c1)) [4])
  | 14, 2 => if e then some (.pure (.bool false)) else none
  | 16, 6 => some (.pure (.bool false))
  | 5, 1 => some (.pure (.int .i64 i1))
  | _, _ => none, fun _ => none⟩
theorem stepDrK (Z : Nat → Int) (l : List Int) (p i : Nat) (o c i1 v c1 : Int) (go g : V8) : stepV drEs (hDrK Z i i1 v c1 go g) 0 cDr (List.range 6) [] [1, 5, 6, 7, 8] (tDr p (i : Int)) (sDr Z l c c o []) = some (.normal, tDr p i1, sDr Z l c1 c1 i1 []) := by kernel_rfl
theorem stepDrKP (Z : Nat → Int) (l : List Int) (p i : Nat) (o c i1 v c1 : Int) (go g : V8) : stepP drEs (hDrK Z i i1 v c1 go g) 0 cDr (tDr p (i : Int)) (sDr Z l c c o []) =
    (aint .lss .i64 (i : Int) (p : Int) = some (.bool true) ∧ aint .lss .i64 (i : Int) 100 = some (.bool true) ∧
     ((none : Option Value) = none ∧ effI (callE keyE.ks keyE.spec [pR 5] (sDr Z l c c o [])) (greads keyE.ks [pR 5]) 6 = some (keyV go, sDr Z l c c i1 [], .eff [5] 6)) ∧
     idxAt 1 0 1 p (i : Int) = some (.pointer (some ⟨1, i, none⟩)) ∧ cellAt (sDr Z l c c i1 []) 1 i = some (.int .i64 v, 1) ∧ aint .lss .i64 v (-1) = some (.bool true) ∧
     ((none : Option Value) = none ∧ effI (callE keyE.ks keyE.spec [pR 3] (sDr Z l c c i1 [])) (greads keyE.ks [pR 3]) 6 = some (keyV g, sDr Z l c1 c i1 [], .eff [3] 6)) ∧
     ((none : Option Value) = none ∧ effI (callE rkeyE.ks rkeyE.spec [pR 4] (sDr Z l c1 c i1 [byR (out8 g) .rw])) (greads rkeyE.ks [pR 4]) 7 = some (keyV g, sDr Z l c1 c1 i1 [byR (out8 g) .rw], .eff [4] 7)) ∧
     neAg (agL g) (agL g) = some (.bool false) ∧ aint .neq .i64 c1 c1 = some (.bool false) ∧ aint .add .i64 (i : Int) 1 = some (.int .i64 i1) ∧ True) := by kernel_rfl
theorem stepDrN (Z : Nat → Int) (l : List Int) (p i : Nat) (o c i1 v c1 x : Int) (go : V8) : ∀ e : Bool, stepV drEs (hDrN Z i i1 v c1 x e go) 0 cDr (List.range 6) [] [1, 5, 6, 7, 8] (tDr p (i : Int)) (sDr Z l c c o []) = some (.normal, tDr p i1, sDr Z l c1 c1 i1 [])
  | true => by kernel_rfl
  | false => by kernel_rfl
def nA (q : Nat) (v : Int) : List Value := [pR q, .int .i64 v]
theorem stepDrNP (Z : Nat → Int) (l : List Int) (p i : Nat) (o c i1 v c1 x : Int) (go : V8) : stepP drEs (hDrN Z i i1 v c1 x true go) 0 cDr (tDr p (i : Int)) (sDr Z l c c o []) =
    (aint .lss .i64 (i : Int) (p : Int) = some (.bool true) ∧ aint .lss .i64 (i : Int) 100 = some (.bool true) ∧
     ((none : Option Value) = none ∧ effI (callE keyE.ks keyE.spec [pR 5] (sDr Z l c c o [])) (greads keyE.ks [pR 5]) 6 = some (keyV go, sDr Z l c c i1 [], .eff [5] 6)) ∧
     idxAt 1 0 1 p (i : Int) = some (.pointer (some ⟨1, i, none⟩)) ∧ cellAt (sDr Z l c c i1 []) 1 i = some (.int .i64 v, 1) ∧ aint .lss .i64 v (-1) = some (.bool false) ∧
     idxAt 1 0 1 p (i : Int) = some (.pointer (some ⟨1, i, none⟩)) ∧ cellAt (sDr Z l c c i1 []) 1 i = some (.int .i64 v, 1) ∧
     ((none : Option Value) = none ∧ effI (callE numE.ks numE.spec (nA 3 v) (sDr Z l c c i1 [])) (greads numE.ks (nA 3 v)) 6 = some (numV x, sDr Z l c1 c i1 [], .eff [3] 6)) ∧
     idxAt 1 0 1 p (i : Int) = some (.pointer (some ⟨1, i, none⟩)) ∧ cellAt (sDr Z l c1 c i1 []) 1 i = some (.int .i64 v, 1) ∧
     ((none : Option Value) = none ∧ effI (callE rnumE.ks rnumE.spec (nA 4 v) (sDr Z l c1 c i1 [])) (greads rnumE.ks (nA 4 v)) 6 = some (numV x, sDr Z l c1 c1 i1 [], .eff [4] 6)) ∧
     aint .neq .i64 x x = some (.bool false) ∧ aint .neq .i64 c1 c1 = some (.bool false) ∧ aint .add .i64 (i : Int) 1 = some (.int .i64 i1) ∧ True) := by kernel_rfl
theorem stepDrBP (Z : Nat → Int) (l : List Int) (p i : Nat) (o c i1 v c1 x : Int) (go : V8) : stepP drEs (hDrN Z i i1 v c1 x false go) 0 cDr (tDr p (i : Int)) (sDr Z l c c o []) =
    (aint .lss .i64 (i : Int) (p : Int) = some (.bool true) ∧ aint .lss .i64 (i : Int) 100 = some (.bool true) ∧
     ((none : Option Value) = none ∧ effI (callE keyE.ks keyE.spec [pR 5] (sDr Z l c c o [])) (greads keyE.ks [pR 5]) 6 = some (keyV go, sDr Z l c c i1 [], .eff [5] 6)) ∧
     idxAt 1 0 1 p (i : Int) = some (.pointer (some ⟨1, i, none⟩)) ∧ cellAt (sDr Z l c c i1 []) 1 i = some (.int .i64 v, 1) ∧ aint .lss .i64 v (-1) = some (.bool false) ∧
     idxAt 1 0 1 p (i : Int) = some (.pointer (some ⟨1, i, none⟩)) ∧ cellAt (sDr Z l c c i1 []) 1 i = some (.int .i64 v, 1) ∧
     ((none : Option Value) = none ∧ effI (callE numE.ks numE.spec (nA 3 v) (sDr Z l c c i1 [])) (greads numE.ks (nA 3 v)) 6 = some (badV, sDr Z l c1 c i1 [], .eff [3] 6)) ∧
     idxAt 1 0 1 p (i : Int) = some (.pointer (some ⟨1, i, none⟩)) ∧ cellAt (sDr Z l c1 c i1 []) 1 i = some (.int .i64 v, 1) ∧
     ((none : Option Value) = none ∧ effI (callE rnumE.ks rnumE.spec (nA 4 v) (sDr Z l c1 c i1 [])) (greads rnumE.ks (nA 4 v)) 6 = some (badV, sDr Z l c1 c1 i1 [], .eff [4] 6)) ∧
     aint .neq .i64 c1 c1 = some (.bool false) ∧ aint .add .i64 (i : Int) 1 = some (.int .i64 i1) ∧ True) := by kernel_rfl
theorem stopDrA (Z : Nat → Int) (l : List Int) (p : Nat) (x c o : Int) : stepV drEs (hEnd 4 false) 0 cDr (List.range 6) [] [] (tDr p x) (sDr Z l c c o []) = some (.exit 0, slots 92 [], sDr Z l c c o []) := by kernel_rfl
theorem stopDrAP (Z : Nat → Int) (l : List Int) (p : Nat) (x c o : Int) : stepP drEs (hEnd 4 false) 0 cDr (tDr p x) (sDr Z l c c o []) = (aint .lss .i64 x (p : Int) = some (.bool false) ∧ True) := by kernel_rfl
theorem stopDrB (Z : Nat → Int) (l : List Int) (p : Nat) (x c o : Int) : stepV drEs (hEnd 4 true) 0 cDr (List.range 6) [] [] (tDr p x) (sDr Z l c c o []) = some (.exit 0, slots 92 [], sDr Z l c c o []) := by kernel_rfl
theorem stopDrBP (Z : Nat → Int) (l : List Int) (p : Nat) (x c o : Int) : stepP drEs (hEnd 4 true) 0 cDr (tDr p x) (sDr Z l c c o []) = (aint .lss .i64 x (p : Int) = some (.bool true) ∧ aint .lss .i64 x 100 = some (.bool false) ∧ True) := by kernel_rfl
theorem plDr (Z : Nat → Int) (l : List Int) (a b o : Int) : plainBut [] 0 (sDr Z l a b o []) = true := by
  have e1 : plainReg (byR (k32 Z) .rw) = true := rfl
  have e2 : ∀ c, plainReg (tpR Z c) = true := fun _ => rfl
  have e3 : plainReg none = true := rfl
  have e4 : ∀ c, plainReg (rtR Z c) = true := fun _ => rfl
  simp only [sDr, plainBut, plain_byI, e1, e2, e3, e4, Bool.or_true, Bool.and_true]
/-- How many of the first i were drawn. -/
def cT (l : List Int) : Nat → Nat
  | 0 => 0
  | i + 1 => cT l i + if l.getD i 0 < -1 ∨ (1 ≤ l.getD i 0 ∧ l.getD i 0 ≤ 9007199254740991) then 1 else 0
theorem cT_succ (l : List Int) (i : Nat) : cT l (i + 1) = cT l i + if l.getD i 0 < -1 ∨ (1 ≤ l.getD i 0 ∧ l.getD i 0 ≤ 9007199254740991) then 1 else 0 := rfl
theorem cT_le (l : List Int) : ∀ i, cT l i ≤ i
  | 0 => Nat.le_refl _
  | i + 1 => by have := cT_le l i; unfold cT; split <;> omega
theorem be8_B8 (n : Int) : ∀ y ∈ be8 n, B8 y := by
  intro y hy
  obtain ⟨i, _, rfl⟩ := List.mem_map.1 hy
  exact u8_B8 _
theorem inL_B8 {Z : Nat → Int} (hZ : ∀ i, i < 32 → B8 (Z i)) (n : Int) : ∀ y ∈ inL Z n, B8 y := by
  intro y hy
  rcases List.mem_append.1 hy with h | h
  · obtain ⟨i, hi, rfl⟩ := List.mem_map.1 h
    exact hZ i (List.mem_range.1 hi)
  · exact be8_B8 n y h
theorem nT_B8 {Z : Nat → Int} (hZ : ∀ i, i < 32 → B8 (Z i)) (n : Int) : nT wordA Z n = nT wordO Z n := by unfold nT; rw [dgv_B8 (inL_B8 hZ n)]
theorem loopDr {Z : Nat → Int} (hZ : ∀ i, i < 32 → B8 (Z i)) (l : List Int) (k : Nat) (hk : k = min l.length 100) : RunsP (.loop cDr) (tDr l.length 0) (sDr Z l 0 0 0 []) (.exit 0) (slots 92 []) (sDr Z l (cT l k : Int) (cT l k : Int) (k : Int) []) := by
  refine Runs.count k (fun i => tDr l.length (i : Int)) (fun i => sDr Z l (cT l i : Int) (cT l i : Int) (i : Int) []) (fun i hi => ?_) ?_ (by simp)
  · have hv : l[i]? = some (l.getD i 0) := getD_get (by omega)
    have hc := cT_le l i
    by_cases hd : l.getD i 0 < -1
    · have hc1 : cT l (i + 1) = cT l i + 1 := by rw [cT_succ, if_pos (.inl hd)]
      have hc2 : (cT l (i + 1) : Int) = (cT l i : Int) + 1 := by rw [hc1]; rfl
      refine step_ok drEs_ok ?_ (stepDrK Z l l.length i (i : Int) (cT l i : Int) ((i + 1 : Nat) : Int) (l.getD i 0) (cT l (i + 1) : Int) (dgv wordO (inL Z (i : Int))) (dgv wordO (inL Z (cT l i : Int)))) (plDr Z l _ _ _)
      rw [stepDrKP, hc2]
      refine ⟨lss_eq (by simp; omega), lss_eq (by simp; omega), ⟨rfl, owe_key (p := 5) rfl (by omega) (by omega)⟩, idx_ok0 (by omega), cell_i64 rfl hv, lss_eq (by simpa using hd), ⟨rfl, owe_key (p := 3) rfl (by omega) (by omega)⟩, ⟨rfl, ?_⟩, neAg_g _, neq_self _ _, add_i64 (by omega) (by omega), trivial⟩
      rw [dgv_B8 (inL_B8 hZ _)]
      exact owe_rkey (p := 4) rfl (by omega) (by omega)
    · by_cases hn : 1 ≤ l.getD i 0 ∧ l.getD i 0 ≤ 9007199254740991
      · have hc1 : cT l (i + 1) = cT l i + 1 := by rw [cT_succ, if_pos (.inr hn)]
        have hc2 : (cT l (i + 1) : Int) = (cT l i : Int) + 1 := by rw [hc1]; rfl
        refine step_ok drEs_ok ?_ (stepDrN Z l l.length i (i : Int) (cT l i : Int) ((i + 1 : Nat) : Int) (l.getD i 0) (cT l (i + 1) : Int) (nT wordO Z (cT l i : Int) % l.getD i 0) (dgv wordO (inL Z (i : Int))) true) (plDr Z l _ _ _)
        rw [stepDrNP, hc2]
        refine ⟨lss_eq (by simp; omega), lss_eq (by simp; omega), ⟨rfl, owe_key (p := 5) rfl (by omega) (by omega)⟩, idx_ok0 (by omega), cell_i64 rfl hv, lss_eq (by simpa using hd), idx_ok0 (by omega), cell_i64 rfl hv, ⟨rfl, owe_num (p := 3) rfl (by omega) (by omega) hn.1 hn.2⟩, idx_ok0 (by omega), cell_i64 rfl hv, ⟨rfl, ?_⟩, neq_self _ _, neq_self _ _, add_i64 (by omega) (by omega), trivial⟩
        rw [← nT_B8 hZ]
        exact owe_rnum (p := 4) rfl (by omega) (by omega) hn.1 hn.2
      · have hc1 : cT l (i + 1) = cT l i := by rw [cT_succ, if_neg (by omega), Nat.add_zero]
        refine step_ok drEs_ok ?_ (stepDrN Z l l.length i (i : Int) (cT l i : Int) ((i + 1 : Nat) : Int) (l.getD i 0) (cT l (i + 1) : Int) 0 (dgv wordO (inL Z (i : Int))) false) (plDr Z l _ _ _)
        rw [stepDrBP, hc1]
        exact ⟨lss_eq (by simp; omega), lss_eq (by simp; omega), ⟨rfl, owe_key (p := 5) rfl (by omega) (by omega)⟩, idx_ok0 (by omega), cell_i64 rfl hv, lss_eq (by simpa using hd), idx_ok0 (by omega), cell_i64 rfl hv, ⟨rfl, owe_numBad (p := 3) rfl (by omega)⟩, idx_ok0 (by omega), cell_i64 rfl hv, ⟨rfl, owe_rnumBad (p := 4) rfl (by omega)⟩, neq_self _ _, add_i64 (by omega) (by omega), trivial⟩
  · by_cases hp : l.length ≤ 100
    · refine step_ok drEs_ok ?_ (stopDrA Z l l.length (k : Int) _ _) (plDr Z l _ _ _)
      rw [stopDrAP]
      exact ⟨lss_eq (by simp; omega), trivial⟩
    · refine step_ok drEs_ok ?_ (stopDrB Z l l.length (k : Int) _ _) (plDr Z l _ _ _)
      rw [stopDrBP]
      exact ⟨lss_eq (by simp; omega), lss_eq (by simp; omega), trivial⟩
def hDrL (Z : Nat → Int) (l : List Int) (c o : Int) : Hint := ⟨fun _ _ => none, fun r => if r = 4 then some ([1, 5, 6, 7, 8], fun _ _ => some (.exit 0, slots 92 [], sDr Z l c c o [])) else none⟩
theorem drR (Z : Nat → Int) (l : List Int) (p : Nat) (c o : Int) : goNH drEs (hDrL Z l c o) 0 Try.f3 (aAl Z p) [none, byI l] = some (.bool true, [none, byI l]) := by kernel_rfl
theorem drP (Z : Nat → Int) (l : List Int) (p : Nat) (c o : Int) : owes drEs (hDrL Z l c o) 0 Try.f3 (aAl Z p) [none, byI l] =
    (RunsP (.loop cDr) (tDr p 0) (sDr Z l 0 0 0 []) (.exit 0) (slots 92 []) (sDr Z l c c o []) ∧ True) := by kernel_rfl
theorem lawDraws (Z : Nat → Int) (l : List Int) (hZ : ∀ i, i < 32 → B8 (Z i)) : AC Try.prog 3 [kag (k32 Z), slR 1 l.length] [none, byI l] (.bool true) [none, byI l] := by
  refine runNH_ok drEs_ok Try.func3 (by kernel_rfl) ?_ (drR Z l l.length (cT l (min l.length 100) : Int) ((min l.length 100 : Nat) : Int)) rfl ?_ rfl
  · change owes drEs (hDrL Z l (cT l (min l.length 100) : Int) ((min l.length 100 : Nat) : Int)) 0 _ (aAl Z l.length) [none, byI l]
    rw [drP]
    exact ⟨loopDr hZ l _ rfl, trivial⟩
  · simp only [List.all_cons, List.all_nil, plain_byI, Bool.and_true]; rfl
end Go.Proofs.Ytobikkgmpcopdaa.Tp
