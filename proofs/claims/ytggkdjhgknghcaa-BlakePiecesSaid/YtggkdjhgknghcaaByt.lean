/- EqBytes and CopyBytes of the helpers: without conditions. -/
import Derived.Test.YtggkdjhgknghcaaLst
namespace Go.Proofs.Ytggkdjhgknghcaa.Byt
open Am Run

/-! EqBytes -/
noncomputable def cE : Code := loopOf 4 (body Try.f13)
def tE (n m i : Nat) : List Value := slots 26 [(0, slR 0 n), (1, slR 1 m), (5, .int .i64 i)]
def tEr (n m : Nat) : List Value := slots 26 [(4, .bool false)]
def sE (a b : List Int) : St := [byR a .ro, byR b .ro]
def hE (i : Nat) (x y : Int) (t : Bool) : Hint := ⟨fun r o => match r, o with
  | 4, 3 => some (.pure (.bool true))
  | 6, 2 => some (.pure (.pointer (some ⟨0, i, none⟩)))
  | 6, 3 => some (.load (.int .u8 x) 0)
  | 6, 6 => some (.pure (.pointer (some ⟨1, i, none⟩)))
  | 6, 7 => some (.load (.int .u8 y) 1)
  | 6, 8 => some (.pure (.bool t))
  | 5, 1 => some (.pure (.int .i64 ((i + 1 : Nat) : Int)))
  | _, _ => none, fun _ => none⟩
def hE0 : Hint := ⟨fun r o => match r, o with
  | 4, 3 => some (.pure (.bool false))
  | _, _ => none, fun _ => none⟩
theorem stepE (a b : List Int) (n m i : Nat) (x y : Int) : stepV [] (hE i x y false) 0 cE [0, 1] [] [0, 1, 5] (tE n m i) (sE a b) = some (.normal, tE n m (i + 1), sE a b) := by kernel_rfl
theorem stepEP (a b : List Int) (n m i : Nat) (x y : Int) : stepP [] (hE i x y false) 0 cE (tE n m i) (sE a b) =
    (aint .lss .i64 (i : Int) (n : Int) = some (.bool true) ∧ idxAt 0 0 1 n (i : Int) = some (.pointer (some ⟨0, i, none⟩)) ∧ cellAt (sE a b) 0 i = some (.int .u8 x, 0) ∧
     idxAt 1 0 1 m (i : Int) = some (.pointer (some ⟨1, i, none⟩)) ∧ cellAt (sE a b) 1 i = some (.int .u8 y, 1) ∧ aint .neq .u8 x y = some (.bool false) ∧ aint .add .i64 (i : Int) 1 = some (.int .i64 ((i + 1 : Nat) : Int)) ∧ True) := by kernel_rfl
theorem differE (a b : List Int) (n m i : Nat) (x y : Int) : stepV [] (hE i x y true) 0 cE [0, 1] [] [4] (tE n m i) (sE a b) = some (.ret, tEr n m, sE a b) := by kernel_rfl
theorem differEP (a b : List Int) (n m i : Nat) (x y : Int) : stepP [] (hE i x y true) 0 cE (tE n m i) (sE a b) =
    (aint .lss .i64 (i : Int) (n : Int) = some (.bool true) ∧ idxAt 0 0 1 n (i : Int) = some (.pointer (some ⟨0, i, none⟩)) ∧ cellAt (sE a b) 0 i = some (.int .u8 x, 0) ∧
     idxAt 1 0 1 m (i : Int) = some (.pointer (some ⟨1, i, none⟩)) ∧ cellAt (sE a b) 1 i = some (.int .u8 y, 1) ∧ aint .neq .u8 x y = some (.bool true) ∧ True) := by kernel_rfl
theorem stopE (a b : List Int) (n m : Nat) : stepV [] hE0 0 cE [0, 1] [] [] (tE n m n) (sE a b) = some (.exit 0, slots 26 [], sE a b) := by kernel_rfl
theorem stopEP (a b : List Int) (n m : Nat) : stepP [] hE0 0 cE (tE n m n) (sE a b) = (aint .lss .i64 (n : Int) (n : Int) = some (.bool false) ∧ True) := by kernel_rfl
theorem plE (a b : List Int) : plainBut [] 0 (sE a b) = true := by
  simp only [sE, plainBut, byR, plainReg_u8, Bool.or_true, Bool.and_true]

theorem roundE {a b : List Int} {i : Nat} (hl : a.length = b.length) (hn : a.length ≤ 2 ^ 60) (hi : i < a.length) (he : a[i]? = b[i]?) : RunsP cE (tE a.length b.length i) (sE a b) .normal (tE a.length b.length (i + 1)) (sE a b) := by
  have h1 : a[i]? = some a[i] := List.getElem?_eq_getElem hi
  refine step_ok es0 ?_ (stepE a b _ _ i a[i] a[i]) (plE a b)
  rw [stepEP]
  exact ⟨lss_eq (by simp; omega), idx_ok0 hi, cell_u8 rfl h1, idx_ok0 (by omega), cell_u8 rfl (by rw [← he, h1]), neq_eq (by simp), add_i64 (by omega) (by omega), trivial⟩
theorem sameE {a : List Int} (hn : a.length ≤ 2 ^ 60) : RunsP (.loop cE) (tE a.length a.length 0) (sE a a) (.exit 0) (slots 26 []) (sE a a) := by
  refine Runs.count a.length (tE a.length a.length) (fun _ => sE a a) (fun i hi => roundE rfl hn hi rfl) ?_ (by simp)
  refine step_ok es0 ?_ (stopE a a _ _) (plE a a)
  rw [stopEP]
  exact ⟨lss_eq (by simp), trivial⟩
theorem unlikeE {a b : List Int} (hl : a.length = b.length) (hn : a.length ≤ 2 ^ 60) (hne : a ≠ b) : RunsP (.loop cE) (tE a.length b.length 0) (sE a b) .ret (tEr a.length b.length) (sE a b) := by
  have hex : ∃ k, k < a.length ∧ a[k]? ≠ b[k]? := by
    apply Classical.byContradiction
    intro h
    apply hne
    apply List.ext_getElem?
    intro i
    apply Classical.byContradiction
    intro hi
    by_cases hlt : i < a.length
    · exact h ⟨i, hlt, hi⟩
    · rw [List.getElem?_eq_none (by omega), List.getElem?_eq_none (by omega)] at hi; exact hi rfl
  obtain ⟨k, ⟨hk, hd⟩, hmin⟩ : ∃ k, (k < a.length ∧ a[k]? ≠ b[k]?) ∧ ∀ j, j < k → ¬ (j < a.length ∧ a[j]? ≠ b[j]?) := by
    obtain ⟨k, hk⟩ := hex
    induction k using Nat.strongRecOn with
    | _ k ih =>
      by_cases h : ∃ j, j < k ∧ (j < a.length ∧ a[j]? ≠ b[j]?)
      · obtain ⟨j, h1, h2⟩ := h; exact ih j h1 h2
      · exact ⟨k, hk, fun j hj hh => h ⟨j, hj, hh⟩⟩
  refine Runs.count k (tE a.length b.length) (fun _ => sE a b) (fun i hi => roundE hl hn (by omega) ?_) ?_ (by simp)
  · apply Classical.byContradiction
    exact fun h => hmin i hi ⟨by omega, h⟩
  · have h1 : a[k]? = some a[k] := List.getElem?_eq_getElem hk
    have h2 : b[k]? = some (b[k]'(by omega)) := List.getElem?_eq_getElem (by omega)
    have hxy : a[k] ≠ b[k]'(by omega) := fun e => hd (by rw [h1, h2, e])
    refine step_ok es0 ?_ (differE a b _ _ k a[k] (b[k]'(by omega))) (plE a b)
    rw [differEP]
    exact ⟨lss_eq (by simp; omega), idx_ok0 hk, cell_u8 rfl h1, idx_ok0 (by omega), cell_u8 rfl h2, neq_eq (by simpa using hxy), trivial⟩

/-- The whole of it: t: are the lengths unlike; r: how the loop ends. -/
def hEf (n m : Nat) (t : Bool) (r : AExit × List Value) : Hint := ⟨fun i o => match i, o with
  | 1, 4 => some (.pure (.bool t))
  | _, _ => none, fun i => if i = 4 then some ([0, 1, 5], fun _ s => some (r.1, r.2, s)) else none⟩
theorem lenE (a b : List Int) (n m : Nat) (r : AExit × List Value) : goNH [] (hEf n m true r) 0 Try.f13 [slR 0 n, slR 1 m] (sE a b) = some (.bool false, sE a b) := by kernel_rfl
theorem lenEP (a b : List Int) (n m : Nat) (r : AExit × List Value) : owes [] (hEf n m true r) 0 Try.f13 [slR 0 n, slR 1 m] (sE a b) = (aint .neq .i64 (n : Int) (m : Int) = some (.bool true) ∧ True) := by kernel_rfl
theorem eqE (a b : List Int) (n m : Nat) : goNH [] (hEf n m false (.exit 0, slots 26 [])) 0 Try.f13 [slR 0 n, slR 1 m] (sE a b) = some (.bool true, sE a b) := by kernel_rfl
theorem eqEP (a b : List Int) (n m : Nat) : owes [] (hEf n m false (.exit 0, slots 26 [])) 0 Try.f13 [slR 0 n, slR 1 m] (sE a b) =
    (aint .neq .i64 (n : Int) (m : Int) = some (.bool false) ∧ RunsP (.loop cE) (tE n m 0) (sE a b) (.exit 0) (slots 26 []) (sE a b) ∧ True) := by kernel_rfl
theorem neE (a b : List Int) (n m : Nat) : goNH [] (hEf n m false (.ret, tEr n m)) 0 Try.f13 [slR 0 n, slR 1 m] (sE a b) = some (.bool false, sE a b) := by kernel_rfl
theorem neEP (a b : List Int) (n m : Nat) : owes [] (hEf n m false (.ret, tEr n m)) 0 Try.f13 [slR 0 n, slR 1 m] (sE a b) =
    (aint .neq .i64 (n : Int) (m : Int) = some (.bool false) ∧ RunsP (.loop cE) (tE n m 0) (sE a b) .ret (tEr n m) (sE a b) ∧ True) := by kernel_rfl
theorem eqBytes_ac {a b : List Int} (ha : a.length ≤ 2 ^ 60) : AC Try.prog 13 [slR 0 a.length, slR 1 b.length] (sE a b) (.bool (decide (a = b))) (sE a b) := by
  have pl : (sE a b).all plainReg = true := by simp only [sE, byR, List.all_cons, List.all_nil, plainReg_u8, Bool.and_true]
  by_cases hl : a.length = b.length
  · by_cases he : a = b
    · subst he
      rw [decide_eq_true rfl]
      refine runNH_ok es0 Try.func13 (by kernel_rfl) ?_ (eqE a a _ _) rfl pl rfl
      rw [eqEP]
      exact ⟨neq_eq (by simp), sameE ha, trivial⟩
    · rw [decide_eq_false he]
      refine runNH_ok es0 Try.func13 (by kernel_rfl) ?_ (neE a b _ _) rfl pl rfl
      rw [neEP]
      exact ⟨neq_eq (by simp; omega), unlikeE hl ha he, trivial⟩
  · rw [decide_eq_false (fun e => hl (by rw [e]))]
    refine runNH_ok es0 Try.func13 (by kernel_rfl) ?_ (lenE a b _ _ (.ret, [])) rfl pl rfl
    rw [lenEP]
    exact ⟨neq_eq (by simp; omega), trivial⟩
def eqSpec (args : List Value) (st : St) : Option (Value × St) :=
  match args, st with
  | [.slice (some ⟨0, 0, none⟩) n c, .slice (some ⟨1, 0, none⟩) m d], [some ⟨xs, .ro⟩, some ⟨ys, .ro⟩] => match u8s xs, u8s ys with
    | some a, some b => if n = a.length ∧ c = a.length ∧ m = b.length ∧ d = b.length ∧ a.length ≤ 2 ^ 60 then some (.bool (decide (a = b)), sE a b) else none
    | _, _ => none
  | _, _ => none
noncomputable def eqBytesE : Entry := ⟨13, [.sl false, .sl false], eqSpec⟩
theorem eqBytesE_ok : EntryOk Try.prog eqBytesE := by
  refine ⟨fun a s r s' h => ?_, body_of Try.func13 (by kernel_rfl) (by kernel_rfl)⟩
  simp only [eqBytesE] at h
  unfold eqSpec at h
  split at h
  · split at h
    · rename_i a b hx hy
      split at h
      · rename_i hc
        obtain ⟨rfl, rfl, rfl, rfl, hl⟩ := hc
        cases h
        rw [u8s_spec hx, u8s_spec hy]
        exact eqBytes_ac hl
      · cases h
    · cases h
  · cases h

/-! CopyBytes -/
def hC (l : List Int) : Hint := ⟨fun r o => match r, o with
  | 2, 2 => some (.eff (rowR 1 l.length) (fun s => s ++ [byR l (.row 1)]) [])
  | _, _ => none, fun _ => none⟩
theorem copyR (l : List Int) : goFH [] (hC l) 0 Try.f10 [slR 0 l.length] [byR l .ro] = some (rowR 1 l.length, [byR l .ro, byR l (.row 1)]) := by kernel_rfl
theorem copyP (l : List Int) : owes [] (hC l) 0 Try.f10 [slR 0 l.length] [byR l .ro] =
    (((none : Option Value) = none ∧ effI (appendCore [byR l .ro] 1 1 (.int .u8 0) (.slice none 0 0) (source [byR l .ro] 1 (slR 0 l.length))) none 1 = some (rowR 1 l.length, [byR l .ro] ++ [byR l (.row 1)], .eff [] 1)) ∧ True) := by kernel_rfl
def copySpec (args : List Value) (st : St) : Option (Value × St) :=
  match args, st with
  | [.slice (some ⟨0, 0, none⟩) n c], [some ⟨xs, .ro⟩] => match u8s xs with
    | some a => if n = a.length ∧ c = a.length ∧ a.length ≤ 140737488355328 then some (rowR 1 a.length, [byR a .ro, byR a (.row 1)]) else none
    | _ => none
  | _, _ => none
noncomputable def copyBytesE : Entry := ⟨10, [.sl false], copySpec⟩
theorem copyBytesE_ok : EntryOk Try.prog copyBytesE := by
  refine ⟨fun a s r s' h => ?_, body_of Try.func10 (by kernel_rfl) (by kernel_rfl)⟩
  simp only [copyBytesE] at h
  unfold copySpec at h
  split at h
  · split at h
    · rename_i a hx
      split at h
      · rename_i hc
        obtain ⟨rfl, rfl, hl⟩ := hc
        cases h
        rw [u8s_spec hx]
        refine runH_ok es0 Try.func10 (by kernel_rfl) ?_ (copyR a)
        show owes [] (hC a) 0 Try.f10 [slR 0 a.length] [byR a .ro]
        rw [copyP, slR, source_all (kd := .ro) rfl, append_nil hl]
        exact ⟨⟨rfl, rfl⟩, trivial⟩
      · cases h
    · cases h
  · cases h

/-! Bring -/
noncomputable def bringE : Entry := ⟨19, [.val, .val], goC [] 0 Try.f19⟩
theorem bringE_ok : EntryOk Try.prog bringE := entryC es0 Try.func19 (by kernel_rfl) (by kernel_rfl)
end Go.Proofs.Ytggkdjhgknghcaa.Byt
