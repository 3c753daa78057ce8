/- The law BlakePieces: the machine's run of its loops. Without conditions. -/
import Derived.Test.YtggkdjhgknghcaaBlP
namespace Go.Proofs.Ytggkdjhgknghcaa.Bl
open Am Run IntWalk Byt

def nilR : Option Reg := some ⟨[], .rw⟩
def nv : Value := .slice none 0 0
noncomputable def piEs : List Entry := [copyBytesE, newE, rofE, eqBytesE, writeE, hsumE, worksE]
theorem piEs_ok : ∀ e ∈ piEs, EntryOk Try.prog e := esc copyBytesE_ok (esc newE_ok (esc rofE_ok (esc eqBytesE_ok (esc writeE_ok (esc hsumE_ok (es1 worksE_ok))))))
theorem nilR_plain : plainReg nilR = true := rfl
theorem hR_plain (H : HS) : plainReg (hR H) = true := rfl
theorem byR_plain (l : List Int) (k : RK) : plainReg (byR l k) = true := plainReg_u8 l k
theorem none_plain : plainReg none = true := rfl

/-! the key is turned -/
noncomputable def c7 : Code := loopOf 7 (body Try.f4)
def q7 (kk : List Int) (H : HS) (dg : List Int) : Bool → St
  | true => [byR kk (.row 1), hR H, nilR, byR dg (.row 1)]
  | false => [byR kk (.row 1), nilR]
def hv7 : Bool → Value
  | true => pR 68
  | false => .pointer none
def hw7 : Bool → Value
  | true => pR 67
  | false => .pointer none
def ev7 : Bool → Value
  | true => .int .i64 0
  | false => .int .i64 2
def len7 : Bool → Nat
  | true => 71
  | false => 69
def ids7 : Bool → List Nat
  | true => List.range 67 ++ [68]
  | false => List.range 67
def q7e (H : HS) : Bool → St
  | true => [hR H]
  | false => []
def t7 (g : Bool) (size : Int) (p n : Nat) (x : Int) : List Value := slots 166 [(0, .int .i64 size), (1, slR 1 p), (2, slR 2 n), (7, rowR 67 p), (8, hv7 g), (9, ev7 g), (12, .int .i64 x)]
def t7e (g : Bool) (size : Int) (p n : Nat) : List Value := slots 166 [(0, .int .i64 size), (1, slR 1 p), (2, slR 2 n), (8, hw7 g), (9, ev7 g)]
def h7 (i : Nat) (i1 v : Int) (l' : List Int) : Hint := ⟨fun r k => match r, k with
  | 7, 3 => some (.pure (.bool true))
  | 9, 4 => some (.pure (.pointer (some ⟨67, i, none⟩)))
  | 9, 5 => some (.load (.int .u8 v) 67)
  | 9, 7 => some (.pure (.pointer (some ⟨67, i, none⟩)))
  | 9, 8 => some (.eff undef (fun s => s.set 67 (byR l' (.row 1))) [67])
  | 8, 1 => some (.pure (.int .i64 i1))
  | _, _ => none, fun _ => none⟩
def h7e : Hint := ⟨fun r k => match r, k with
  | 7, 3 => some (.pure (.bool false))
  | _, _ => none, fun _ => none⟩
theorem step7 (key : List Int) (n : Nat) (b : Nat → List Int) (l l' dg : List Int) (H : HS) (size : Int) (p i : Nat) (i1 v : Int) : ∀ g, stepB none [] (h7 i i1 v l') 0 c7 (List.range (len7 g)) [0, 1, 2, 7, 8, 9, 12] [] (t7 g size p n (i : Int)) (sPi key n b (q7 l H dg g)) = some (.normal, t7 g size p n i1, sPi key n b (q7 l' H dg g))
  | true => by kernel_rfl
  | false => by kernel_rfl
theorem step7P (key : List Int) (n : Nat) (b : Nat → List Int) (l l' dg : List Int) (H : HS) (size : Int) (p i : Nat) (i1 v : Int) : ∀ g, stepP [] (h7 i i1 v l') 0 c7 (t7 g size p n (i : Int)) (sPi key n b (q7 l H dg g)) =
    (aint .lss .i64 (i : Int) (p : Int) = some (.bool true) ∧ idxAt 67 0 1 p (i : Int) = some (.pointer (some ⟨67, i, none⟩)) ∧ cellAt (sPi key n b (q7 l H dg g)) 67 i = some (.int .u8 v, 67) ∧
     idxAt 67 0 1 p (i : Int) = some (.pointer (some ⟨67, i, none⟩)) ∧ ((none : Option Value) = none ∧ effI (storeCore (sPi key n b (q7 l H dg g)) 67 i [.int .u8 (inc8 v)]) none (len7 g) = some (undef, sPi key n b (q7 l' H dg g), .eff [67] (len7 g))) ∧
     aint .add .i64 (i : Int) 1 = some (.int .i64 i1) ∧ True)
  | true => by kernel_rfl
  | false => by kernel_rfl
theorem stop7 (key : List Int) (n : Nat) (b : Nat → List Int) (l dg : List Int) (H : HS) (size : Int) (p : Nat) (x : Int) : ∀ g, stepB (some 67) [] h7e 0 c7 (ids7 g) [0, 1, 2, 8, 9] [] (t7 g size p n x) (sPi key n b (q7 l H dg g)) = some (.exit 0, t7e g size p n, sPi key n b (q7e H g))
  | true => by kernel_rfl
  | false => by kernel_rfl
theorem stop7P (key : List Int) (n : Nat) (b : Nat → List Int) (l dg : List Int) (H : HS) (size : Int) (p : Nat) (x : Int) : ∀ g, stepP [] h7e 0 c7 (t7 g size p n x) (sPi key n b (q7 l H dg g)) = (aint .lss .i64 x (p : Int) = some (.bool false) ∧ True)
  | true => by kernel_rfl
  | false => by kernel_rfl
theorem q7_plain (l dg : List Int) (H : HS) : ∀ g, (q7 l H dg g).all plainReg = true
  | true => by simp only [q7, List.all_cons, List.all_nil, byR_plain, nilR_plain, hR_plain, Bool.and_true]
  | false => by simp only [q7, List.all_cons, List.all_nil, byR_plain, nilR_plain, Bool.and_true]
theorem ids71 : idsOk (List.range 71) = true := by kernel_rfl
theorem ids69 : idsOk (List.range 69) = true := by kernel_rfl
theorem ids7_ok : ∀ g, idsOk (ids7 g) = true
  | true => by kernel_rfl
  | false => by kernel_rfl
theorem idsL_ok : ∀ g, idsOk (List.range (len7 g)) = true
  | true => ids71
  | false => ids69
theorem loop7 (key : List Int) (n : Nat) (b : Nat → List Int) (dg : List Int) (H : HS) (size : Int) (hk : key.length ≤ 2 ^ 60) (g : Bool) : RunsP (.loop c7) (t7 g size key.length n 0) (sPi key n b (q7 key H dg g)) (.exit 0) (t7e g size key.length n) (sPi key n b (q7e H g)) := by
  have h := Runs.count key.length (fun i => t7 g size key.length n (i : Int)) (fun i => sPi key n b (q7 (mapTo inc8 key i) H dg g)) (e := .exit 0) (te := t7e g size key.length n) (se := sPi key n b (q7e H g)) (fun i hi => by
    have hg : ∀ l, (sPi key n b (q7 l H dg g))[67]? = some (byR l (.row 1)) := fun l => by rw [sPi_get (k := 0) rfl]; cases g <;> rfl
    refine stepPi_ok es0 ?_ (step7 key n b _ (mapTo inc8 key (i + 1)) dg H size key.length i ((i + 1 : Nat) : Int) (key.getD i 0) g) (idsL_ok g) (by cases g <;> rfl) (by cases g <;> rfl) (fun k v hk => by simp at hk) (q7_plain _ _ _ g)
    rw [step7P]
    refine ⟨lss_eq (by simp; omega), idx_ok0 hi, cell_u8 (hg _) (mapTo_get inc8 hi), idx_ok0 hi, ⟨rfl, ?_⟩, add_i64 (by omega) (by omega), trivial⟩
    rw [store_u8 (l := mapTo inc8 key i) (kd := .row 1) (hg _) (by rw [mapTo_length]; omega) (by simp), mapTo_set inc8 hi, sPi_set (k := 0) rfl]
    cases g <;> rfl) (by
    refine stepPi_ok es0 ?_ (stop7 key n b _ dg H size key.length _ g) (ids7_ok g) (by cases g <;> rfl) (by cases g <;> rfl) (fun k v hk => by simp at hk) (by cases g <;> rfl)
    rw [stop7P]
    exact ⟨lss_eq (by simp), trivial⟩) (by simp)
  simp only [mapTo_zero] at h
  exact h

/-! memory within the great loop -/
def Qa (H O : HS) (al : List Int) : St := [hR H, nilR, hR O, byR al (.row 1)]
def Qb (H O : HS) (al pc : List Int) : St := [hR H, nilR, hR O, byR al (.row 1), byR pc (.row 1)]
def Qr (H O : HS) (al pc : List Int) (w : Int) : St := [hR H, nilR, hR O, byR al (.row 1), byR pc (.row 1), byR [w] (.row 1)]
def Qd (H O : HS) (pc : List Int) (w : Int) (al : List Int) : St := [hR H, nilR, hR O, none, byR pc (.row 1), byR [w] (.row 1), byR al (.row 1)]
def Qe (H O : HS) (pc : List Int) (w : Int) (al want : List Int) : St := [hR H, nilR, hR O, none, byR pc (.row 1), byR [w] (.row 1), byR al (.row 1), byR want (.row 1)]
def Qs (H O : HS) (pc : List Int) (w : Int) (al want d : List Int) : St := [hR H, nilR, hR O, none, byR pc (.row 1), byR [w] (.row 1), byR al (.row 1), byR want (.row 1), byR d .rw]
def slB (size : Int) (p n r na : Nat) (i : Int) : List (Nat × Value) := [(0, .int .i64 size), (1, slR 1 p), (2, slR 2 n), (8, pR 67), (9, .int .i64 0), (13, pR 69), (15, rowR r na), (16, .int .i64 i)]
def pcV (i q m : Nat) : Value := .slice (some ⟨3 + i, 0, none⟩) q m

/-! a copy is turned -/
noncomputable def c22 : Code := loopOf 22 (body Try.f4)
def t22 (size : Int) (p n na i q m : Nat) (x : Int) : List Value := slots 166 (slB size p n 70 na (i : Int) ++ [(17, pcV i q m), (18, rowR 71 q), (19, .int .i64 x)])
def t22e (size : Int) (p n na i q m : Nat) : List Value := slots 166 (slB size p n 70 na (i : Int) ++ [(17, pcV i q m)])
def h22 (i : Nat) (i1 v : Int) (l' : List Int) : Hint := ⟨fun r k => match r, k with
  | 22, 3 => some (.pure (.bool true))
  | 24, 4 => some (.pure (.pointer (some ⟨71, i, none⟩)))
  | 24, 5 => some (.load (.int .u8 v) 71)
  | 24, 7 => some (.pure (.pointer (some ⟨71, i, none⟩)))
  | 24, 8 => some (.eff undef (fun s => s.set 71 (byR l' (.row 1))) [71])
  | 23, 1 => some (.pure (.int .i64 i1))
  | _, _ => none, fun _ => none⟩
def h22e : Hint := ⟨fun r k => match r, k with
  | 22, 3 => some (.pure (.bool false))
  | _, _ => none, fun _ => none⟩
theorem step22 (key : List Int) (n : Nat) (b : Nat → List Int) (H O : HS) (al l l' : List Int) (w size : Int) (p na j q m i : Nat) (i1 v : Int) : stepB none [] (h22 i i1 v l') 0 c22 (List.range 73) [0, 1, 2, 8, 9, 13, 15, 16, 18, 19] [17] (t22 size p n na j q m (i : Int)) (sPi key n b (Qr H O al l w)) = some (.normal, t22 size p n na j q m i1, sPi key n b (Qr H O al l' w)) := by kernel_rfl
theorem step22P (key : List Int) (n : Nat) (b : Nat → List Int) (H O : HS) (al l l' : List Int) (w size : Int) (p na j q m i : Nat) (i1 v : Int) : stepP [] (h22 i i1 v l') 0 c22 (t22 size p n na j q m (i : Int)) (sPi key n b (Qr H O al l w)) =
    (aint .lss .i64 (i : Int) (q : Int) = some (.bool true) ∧ idxAt 71 0 1 q (i : Int) = some (.pointer (some ⟨71, i, none⟩)) ∧ cellAt (sPi key n b (Qr H O al l w)) 71 i = some (.int .u8 v, 71) ∧
     idxAt 71 0 1 q (i : Int) = some (.pointer (some ⟨71, i, none⟩)) ∧ ((none : Option Value) = none ∧ effI (storeCore (sPi key n b (Qr H O al l w)) 71 i [.int .u8 (inc8 v)]) none 73 = some (undef, sPi key n b (Qr H O al l' w), .eff [71] 73)) ∧
     aint .add .i64 (i : Int) 1 = some (.int .i64 i1) ∧ True) := by kernel_rfl
theorem stop22 (key : List Int) (n : Nat) (b : Nat → List Int) (H O : HS) (al l : List Int) (w size : Int) (p na j q m : Nat) (x : Int) : stepB none [] h22e 0 c22 (List.range 73) [0, 1, 2, 8, 9, 13, 15, 16] [17] (t22 size p n na j q m x) (sPi key n b (Qr H O al l w)) = some (.exit 4, t22e size p n na j q m, sPi key n b (Qr H O al l w)) := by kernel_rfl
theorem stop22P (key : List Int) (n : Nat) (b : Nat → List Int) (H O : HS) (al l : List Int) (w size : Int) (p na j q m : Nat) (x : Int) : stepP [] h22e 0 c22 (t22 size p n na j q m x) (sPi key n b (Qr H O al l w)) = (aint .lss .i64 x (q : Int) = some (.bool false) ∧ True) := by kernel_rfl
theorem Qr_plain (H O : HS) (al l : List Int) (w : Int) : (Qr H O al l w).all plainReg = true := by simp only [Qr, List.all_cons, List.all_nil, byR_plain, nilR_plain, hR_plain, Bool.and_true]
theorem ids73 : idsOk (List.range 73) = true := by kernel_rfl
theorem loop22 (key : List Int) (n : Nat) (b : Nat → List Int) (H O : HS) (al pc : List Int) (w size : Int) (p na m : Nat) {j : Nat} (hj : j < 64) (hq : pc.length ≤ 2 ^ 60) :
    RunsP (.loop c22) (t22 size p n na j pc.length m 0) (sPi key n b (Qr H O al pc w)) (.exit 4) (t22e size p n na j pc.length m) (sPi key n b (Qr H O al (pc.map inc8) w)) := by
  have hkp : ∀ (x : Int) (k : Nat) (v : Value), [17].contains k = true → (t22 size p n na j pc.length m x)[k]? = some v → ∃ i q m, i < 64 ∧ v = .slice (some ⟨3 + i, 0, none⟩) q m := fun x k v h1 h2 => by
    have : k = 17 := by simpa using h1
    subst this
    have e : (t22 size p n na j pc.length m x)[17]? = some (pcV j pc.length m) := rfl
    rw [e] at h2; cases h2
    exact ⟨j, _, _, hj, rfl⟩
  have hke : ∀ (k : Nat) (v : Value), [17].contains k = true → (t22e size p n na j pc.length m)[k]? = some v → ∃ i q m, i < 64 ∧ v = .slice (some ⟨3 + i, 0, none⟩) q m := fun k v h1 h2 => by
    have : k = 17 := by simpa using h1
    subst this
    have e : (t22e size p n na j pc.length m)[17]? = some (pcV j pc.length m) := rfl
    rw [e] at h2; cases h2
    exact ⟨j, _, _, hj, rfl⟩
  have h := Runs.count pc.length (fun i => t22 size p n na j pc.length m (i : Int)) (fun i => sPi key n b (Qr H O al (mapTo inc8 pc i) w)) (e := .exit 4) (te := t22e size p n na j pc.length m) (se := sPi key n b (Qr H O al (mapTo inc8 pc pc.length) w)) (fun i hi => by
    have hg : ∀ l, (sPi key n b (Qr H O al l w))[71]? = some (byR l (.row 1)) := fun l => by rw [sPi_get (k := 4) rfl]; rfl
    refine stepPi_ok es0 ?_ (step22 key n b H O al _ (mapTo inc8 pc (i + 1)) w size p na j pc.length m i ((i + 1 : Nat) : Int) (pc.getD i 0)) ids73 rfl rfl (hkp _) (Qr_plain _ _ _ _ _)
    rw [step22P]
    refine ⟨lss_eq (by simp; omega), idx_ok0 hi, cell_u8 (hg _) (mapTo_get inc8 hi), idx_ok0 hi, ⟨rfl, ?_⟩, add_i64 (by omega) (by omega), trivial⟩
    rw [store_u8 (l := mapTo inc8 pc i) (kd := .row 1) (hg _) (by rw [mapTo_length]; omega) (by simp), mapTo_set inc8 hi, sPi_set (k := 4) rfl]
    rfl) (by
    refine stepPi_ok es0 ?_ (stop22 key n b H O al _ w size p na j pc.length m _) ids73 rfl rfl hke (Qr_plain _ _ _ _ _)
    rw [stop22P]
    exact ⟨lss_eq (by simp), trivial⟩) (by simp)
  simp only [mapTo_zero, mapTo_all] at h
  exact h

/-! what was told is wiped -/
noncomputable def c31 : Code := loopOf 31 (body Try.f4)
def dv (z : Nat) : Value := .slice (some ⟨75, 0, none⟩) z z
def t31 (size : Int) (p n na i z : Nat) (x : Int) : List Value := slots 166 (slB size p n 73 na (i : Int) ++ [(22, dv z), (23, .int .i64 x)])
def t31e (size : Int) (p n na i : Nat) : List Value := slots 166 (slB size p n 73 na (i : Int))
def h31 (i : Nat) (i1 : Int) (l' : List Int) : Hint := ⟨fun r k => match r, k with
  | 31, 3 => some (.pure (.bool true))
  | 33, 2 => some (.pure (.pointer (some ⟨75, i, none⟩)))
  | 33, 3 => some (.eff undef (fun s => s.set 75 (byR l' .rw)) [75])
  | 32, 1 => some (.pure (.int .i64 i1))
  | _, _ => none, fun _ => none⟩
def h31e : Hint := ⟨fun r k => match r, k with
  | 31, 3 => some (.pure (.bool false))
  | _, _ => none, fun _ => none⟩
theorem step31 (key : List Int) (n : Nat) (b : Nat → List Int) (H O : HS) (pc al want l l' : List Int) (w size : Int) (p na j z i : Nat) (i1 : Int) : stepB none [] (h31 i i1 l') 0 c31 (List.range 76) [0, 1, 2, 8, 9, 13, 15, 16, 22, 23] [] (t31 size p n na j z (i : Int)) (sPi key n b (Qs H O pc w al want l)) = some (.normal, t31 size p n na j z i1, sPi key n b (Qs H O pc w al want l')) := by kernel_rfl
theorem step31P (key : List Int) (n : Nat) (b : Nat → List Int) (H O : HS) (pc al want l l' : List Int) (w size : Int) (p na j z i : Nat) (i1 : Int) : stepP [] (h31 i i1 l') 0 c31 (t31 size p n na j z (i : Int)) (sPi key n b (Qs H O pc w al want l)) =
    (aint .lss .i64 (i : Int) (z : Int) = some (.bool true) ∧ idxAt 75 0 1 z (i : Int) = some (.pointer (some ⟨75, i, none⟩)) ∧
     ((none : Option Value) = none ∧ effI (storeCore (sPi key n b (Qs H O pc w al want l)) 75 i [.int .u8 0]) none 76 = some (undef, sPi key n b (Qs H O pc w al want l'), .eff [75] 76)) ∧ aint .add .i64 (i : Int) 1 = some (.int .i64 i1) ∧ True) := by kernel_rfl
theorem stop31 (key : List Int) (n : Nat) (b : Nat → List Int) (H O : HS) (pc al want l : List Int) (w size : Int) (p na j z : Nat) (x : Int) : stepB none [] h31e 0 c31 (List.range 76) [0, 1, 2, 8, 9, 13, 15, 16] [] (t31 size p n na j z x) (sPi key n b (Qs H O pc w al want l)) = some (.exit 6, t31e size p n na j, sPi key n b (Qs H O pc w al want l)) := by kernel_rfl
theorem stop31P (key : List Int) (n : Nat) (b : Nat → List Int) (H O : HS) (pc al want l : List Int) (w size : Int) (p na j z : Nat) (x : Int) : stepP [] h31e 0 c31 (t31 size p n na j z x) (sPi key n b (Qs H O pc w al want l)) = (aint .lss .i64 x (z : Int) = some (.bool false) ∧ True) := by kernel_rfl
theorem Qs_plain (H O : HS) (pc al want d : List Int) (w : Int) : (Qs H O pc w al want d).all plainReg = true := by simp only [Qs, List.all_cons, List.all_nil, byR_plain, nilR_plain, hR_plain, none_plain, Bool.and_true]
theorem ids76 : idsOk (List.range 76) = true := by kernel_rfl
def zl (d : List Int) (i : Nat) : List Int := List.replicate i 0 ++ d.drop i
theorem zl_set {d : List Int} {i : Nat} (h : i < d.length) : (zl d i).set i 0 = zl d (i + 1) := by
  unfold zl
  rw [List.set_append_right _ _ (by simp), List.length_replicate, Nat.sub_self, List.drop_eq_getElem_cons h, List.set_cons_zero, List.replicate_succ']
  simp
theorem zl_length (d : List Int) {i : Nat} (h : i ≤ d.length) : (zl d i).length = d.length := by simp [zl]; omega
theorem loop31 (key : List Int) (n : Nat) (b : Nat → List Int) (H O : HS) (pc al want d : List Int) (w size : Int) (p na j : Nat) {z : Nat} (hz : z ≤ d.length) (hd : d.length ≤ 2 ^ 60) :
    RunsP (.loop c31) (t31 size p n na j z 0) (sPi key n b (Qs H O pc w al want d)) (.exit 6) (t31e size p n na j) (sPi key n b (Qs H O pc w al want (zl d z))) := by
  have h := Runs.count z (fun i => t31 size p n na j z (i : Int)) (fun i => sPi key n b (Qs H O pc w al want (zl d i))) (e := .exit 6) (te := t31e size p n na j) (se := sPi key n b (Qs H O pc w al want (zl d z))) (fun i hi => by
    have hg : ∀ l, (sPi key n b (Qs H O pc w al want l))[75]? = some (byR l .rw) := fun l => by rw [sPi_get (k := 8) rfl]; rfl
    refine stepPi_ok es0 ?_ (step31 key n b H O pc al want _ (zl d (i + 1)) w size p na j z i ((i + 1 : Nat) : Int)) ids76 rfl rfl (fun k v hk => by simp at hk) (Qs_plain _ _ _ _ _ _ _)
    rw [step31P]
    refine ⟨lss_eq (by simp; omega), idx_ok0 hi, ⟨rfl, ?_⟩, add_i64 (by omega) (by omega), trivial⟩
    rw [store_u8 (l := zl d i) (kd := .rw) (hg _) (by rw [zl_length d (by omega)]; omega) (by simp), zl_set (by omega), sPi_set (k := 8) rfl]
    rfl) (by
    refine stepPi_ok es0 ?_ (stop31 key n b H O pc al want _ w size p na j z _) ids76 rfl rfl (fun k v hk => by simp at hk) (Qs_plain _ _ _ _ _ _ _)
    rw [stop31P]
    exact ⟨lss_eq (by simp), trivial⟩) (by simp)
  have e : zl d 0 = d := by simp [zl]
  simp only [e] at h
  exact h
end Go.Proofs.Ytggkdjhgknghcaa.Bl
