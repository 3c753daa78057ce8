/- The laws BlakeTwice and BlakeNothing: the machine's runs of them. Without conditions. -/
import Derived.Test.YtggkdjhgknghcaaBlL2
namespace Go.Proofs.Ytggkdjhgknghcaa.Bl
open Am Run IntWalk Byt

/-! BlakeTwice -/
noncomputable def twEs : List Entry := [worksE, newE, writeE, hsumE, eqBytesE]
theorem twEs_ok : ∀ e ∈ twEs, EntryOk Try.prog e := esc worksE_ok (esc newE_ok (esc writeE_ok (esc hsumE_ok (es1 eqBytesE_ok))))
def hTw (p m : Nat) (H H1 H2 : HS) (d1 d2 : List Int) : Hint := ⟨fun r i => match r, i with
  | 3, 3 => some (.pure (.int .i64 (m : Int)))
  | 3, 4 => some (.pure (lo 0 m p))
  | 3, 5 => some (.eff (.tuple #[pR 2, .int .i64 0]) (fun s => s ++ [hR H]) [])
  | 4, 3 => some (.pure (.int .i64 (m : Int)))
  | 4, 4 => some (.pure (lo 0 m p))
  | 4, 5 => some (.eff (.tuple #[pR 3, .int .i64 0]) (fun s => s ++ [hR H]) [])
  | 7, 2 => some (.eff (.tuple #[]) (fun s => s.set 2 (hR H1)) [2])
  | 8, 2 => some (.eff (.tuple #[]) (fun s => s.set 3 (hR H1)) [3])
  | 9, 1 => some (.eff (sl0 4 20) (fun s => s ++ [byR d1 .rw]) [])
  | 9, 3 => some (.eff (sl0 5 20) (fun s => s ++ [byR d1 .rw]) [])
  | 10, 2 => some (.eff (.tuple #[]) (fun s => s.set 2 (hR H2)) [2])
  | 11, 2 => some (.eff (.tuple #[]) (fun s => s.set 3 (hR H2)) [3])
  | 12, 2 => some (.read (.bool true) [4, 5])
  | 12, 5 => some (.eff (sl0 6 20) (fun s => s ++ [byR d2 .rw]) [])
  | 12, 7 => some (.eff (sl0 7 20) (fun s => s ++ [byR d2 .rw]) [])
  | 12, 8 => some (.read (.bool true) [6, 7])
  | _, _ => none, fun _ => none⟩
def sT (a b : List Int) (l : St) : St := byR a .ro :: byR b .ro :: l
theorem twR (a b d1 d2 : List Int) (p q m : Nat) (H H1 H2 : HS) : goNH twEs (hTw p m H H1 H2 d1 d2) 0 Try.f7 [slR 0 p, slR 1 q] (sT a b []) = some (.bool true, sT a b []) := by kernel_rfl
theorem twP (a b d1 d2 : List Int) (p q m : Nat) (H H1 H2 : HS) : owes twEs (hTw p m H H1 H2 d1 d2) 0 Try.f7 [slR 0 p, slR 1 q] (sT a b []) =
    (aminmax false [.int .i64 (p : Int), .int .i64 32] = some (.int .i64 (m : Int)) ∧ cut 0 0 p p 1 none (some (.int .i64 (m : Int))) none = some (lo 0 m p) ∧
     ((none : Option Value) = none ∧ effI (callE newE.ks newE.spec [.int .i64 20, lo 0 m p] (sT a b [])) (greads newE.ks [.int .i64 20, lo 0 m p]) 2 = some (.tuple #[pR 2, .int .i64 0], sT a b [] ++ [hR H], .eff [] 2)) ∧
     aminmax false [.int .i64 (p : Int), .int .i64 32] = some (.int .i64 (m : Int)) ∧ cut 0 0 p p 1 none (some (.int .i64 (m : Int))) none = some (lo 0 m p) ∧
     ((none : Option Value) = none ∧ effI (callE newE.ks newE.spec [.int .i64 20, lo 0 m p] (sT a b [hR H])) (greads newE.ks [.int .i64 20, lo 0 m p]) 3 = some (.tuple #[pR 3, .int .i64 0], sT a b [hR H] ++ [hR H], .eff [] 3)) ∧
     ((none : Option Value) = none ∧ effI (callE writeE.ks writeE.spec [pR 2, slR 0 p] (sT a b [hR H, hR H])) (greads writeE.ks [pR 2, slR 0 p]) 4 = some (.tuple #[], sT a b [hR H1, hR H], .eff [2] 4)) ∧
     ((none : Option Value) = none ∧ effI (callE writeE.ks writeE.spec [pR 3, slR 0 p] (sT a b [hR H1, hR H])) (greads writeE.ks [pR 3, slR 0 p]) 4 = some (.tuple #[], sT a b [hR H1, hR H1], .eff [3] 4)) ∧
     ((none : Option Value) = none ∧ effI (callE hsumE.ks hsumE.spec [pR 2] (sT a b [hR H1, hR H1])) (greads hsumE.ks [pR 2]) 4 = some (sl0 4 20, sT a b [hR H1, hR H1] ++ [byR d1 .rw], .eff [] 4)) ∧
     ((none : Option Value) = none ∧ effI (callE hsumE.ks hsumE.spec [pR 2] (sT a b [hR H1, hR H1, byR d1 .rw])) (greads hsumE.ks [pR 2]) 5 = some (sl0 5 20, sT a b [hR H1, hR H1, byR d1 .rw] ++ [byR d1 .rw], .eff [] 5)) ∧
     ((none : Option Value) = none ∧ effI (callE writeE.ks writeE.spec [pR 2, slR 1 q] (sT a b [hR H1, hR H1, byR d1 .rw, byR d1 .rw])) (greads writeE.ks [pR 2, slR 1 q]) 6 = some (.tuple #[], sT a b [hR H2, hR H1, byR d1 .rw, byR d1 .rw], .eff [2] 6)) ∧
     ((none : Option Value) = none ∧ effI (callE writeE.ks writeE.spec [pR 3, slR 1 q] (sT a b [hR H2, hR H1, byR d1 .rw, byR d1 .rw])) (greads writeE.ks [pR 3, slR 1 q]) 6 = some (.tuple #[], sT a b [hR H2, hR H2, byR d1 .rw, byR d1 .rw], .eff [3] 6)) ∧
     ((none : Option Value) = none ∧ effI (callE eqBytesE.ks eqBytesE.spec [sl0 4 20, sl0 5 20] (sT a b [hR H2, hR H2, byR d1 .rw, byR d1 .rw])) (greads eqBytesE.ks [sl0 4 20, sl0 5 20]) 6 = some (.bool true, sT a b [hR H2, hR H2, byR d1 .rw, byR d1 .rw], .load [4, 5])) ∧
     ((none : Option Value) = none ∧ effI (callE hsumE.ks hsumE.spec [pR 2] (sT a b [hR H2, hR H2, byR d1 .rw, byR d1 .rw])) (greads hsumE.ks [pR 2]) 6 = some (sl0 6 20, sT a b [hR H2, hR H2, byR d1 .rw, byR d1 .rw] ++ [byR d2 .rw], .eff [] 6)) ∧
     ((none : Option Value) = none ∧ effI (callE hsumE.ks hsumE.spec [pR 3] (sT a b [hR H2, hR H2, byR d1 .rw, byR d1 .rw, byR d2 .rw])) (greads hsumE.ks [pR 3]) 7 = some (sl0 7 20, sT a b [hR H2, hR H2, byR d1 .rw, byR d1 .rw, byR d2 .rw] ++ [byR d2 .rw], .eff [] 7)) ∧
     ((none : Option Value) = none ∧ effI (callE eqBytesE.ks eqBytesE.spec [sl0 6 20, sl0 7 20] (sT a b [hR H2, hR H2, byR d1 .rw, byR d1 .rw, byR d2 .rw, byR d2 .rw])) (greads eqBytesE.ks [sl0 6 20, sl0 7 20]) 8 = some (.bool true, sT a b [hR H2, hR H2, byR d1 .rw, byR d1 .rw, byR d2 .rw, byR d2 .rw], .load [6, 7])) ∧ True) := by kernel_rfl
theorem min_32 {p m : Nat} (h : m = min p 32) : aminmax false [.int .i64 (p : Int), .int .i64 32] = some (.int .i64 (m : Int)) := by
  simp only [aminmax, if_true, Bool.false_eq_true, if_false]
  congr 2
  split <;> omega
theorem sl0_bys {st : St} {i z : Nat} {l : List Int} {kd : RK} (h : st[i]? = some (byR l kd)) (hz : z ≤ l.length) : Bys st (sl0 i z) i 0 (l.take z) := by
  have := Bys.part (st := st) (i := i) (off := 0) (n := z) (c := z) h (by omega) (Nat.le_refl _)
  rw [List.drop_zero] at this
  exact this
theorem sumL_length (H : HS) : (sumL H).length = 32 := rfl
theorem lawTwice (a b : List Int) (ha : a.length ≤ 140737488351232) (hb : b.length ≤ 140737488351232) : AC Try.prog 7 [slR 0 a.length, slR 1 b.length] (sT a b []) (.bool true) (sT a b []) := by
  obtain ⟨m, hm⟩ : ∃ m, m = min a.length 32 := ⟨_, rfl⟩
  have hma : m ≤ a.length := by omega
  have hkl : (a.take m).length = m := by simp; omega
  have hnb : ¬ badN 20 (a.take m).length := by unfold badN; omega
  have w0 := newH_waits 20 (a.take m)
  have w1 := absorb_waits w0 a
  have w2 := absorb_waits w1 b
  have z0 : (newH 20 (a.take m)).size = 20 := newH_size _ _
  have z1 : (absorb (newH 20 (a.take m)) a).size = 20 := by rw [absorb_size]; exact z0
  have z2 : (absorb (absorb (newH 20 (a.take m)) a) b).size = 20 := by rw [absorb_size]; exact z1
  have bl : ∀ l : St, Bys (sT a b l) (lo 0 m a.length) 0 0 (a.take m) := fun l => by
    have := Bys.part (st := sT a b l) (i := 0) (off := 0) (n := m) (c := a.length) (cs := a) (kd := .ro) rfl (by omega) hma
    rw [List.drop_zero] at this
    exact this
  refine runNH_ok twEs_ok Try.func7 (by kernel_rfl) ?_ (twR a b (sumL (absorb (newH 20 (a.take m)) a)) (sumL (absorb (absorb (newH 20 (a.take m)) a) b)) _ _ m (newH 20 (a.take m)) (absorb (newH 20 (a.take m)) a) (absorb (absorb (newH 20 (a.take m)) a) b)) rfl ?_ rfl
  · rw [twP]
    refine ⟨min_32 hm, cut_upto hma, ⟨rfl, owe_new (bl []) hnb rfl⟩, min_32 hm, cut_upto hma, ⟨rfl, owe_new (bl _) hnb rfl⟩,
      ⟨rfl, owe_hwrite (p := 2) rfl (Bys.all (i := 0) rfl) (by decide) (by rw [z0]; decide) w0 (by omega)⟩, ⟨rfl, owe_hwrite (p := 3) rfl (Bys.all (i := 0) rfl) (by decide) (by rw [z0]; decide) w0 (by omega)⟩,
      ⟨rfl, owe_hsum (p := 2) (z := 20) rfl z1 (by decide) (by decide) w1 rfl⟩, ⟨rfl, owe_hsum (p := 2) (z := 20) rfl z1 (by decide) (by decide) w1 rfl⟩,
      ⟨rfl, owe_hwrite (p := 2) rfl (Bys.all (i := 1) rfl) (by decide) (by rw [z1]; decide) w1 (by omega)⟩, ⟨rfl, owe_hwrite (p := 3) rfl (Bys.all (i := 1) rfl) (by decide) (by rw [z1]; decide) w1 (by omega)⟩,
      ⟨rfl, eq_self (sl0_bys (i := 4) rfl (by rw [sumL_length]; decide)) (sl0_bys (i := 5) rfl (by rw [sumL_length]; decide)) (by rw [List.length_take]; omega) rfl⟩,
      ⟨rfl, owe_hsum (p := 2) (z := 20) rfl z2 (by decide) (by decide) w2 rfl⟩, ⟨rfl, owe_hsum (p := 3) (z := 20) rfl z2 (by decide) (by decide) w2 rfl⟩,
      ⟨rfl, eq_self (sl0_bys (i := 6) rfl (by rw [sumL_length]; decide)) (sl0_bys (i := 7) rfl (by rw [sumL_length]; decide)) (by rw [List.length_take]; omega) rfl⟩, trivial⟩
  · simp only [sT, List.all_cons, List.all_nil, byR, plain_u8, plainReg, Bool.and_true, Bool.and_self]

/-! BlakeNothing -/
noncomputable def noEs : List Entry := [worksE, newE, writeE, hsumE, eqBytesE, brE, bsumE]
theorem noEs_ok : ∀ e ∈ noEs, EntryOk Try.prog e := esc worksE_ok (esc newE_ok (esc writeE_ok (esc hsumE_ok (esc eqBytesE_ok (esc brE_ok (es1 bsumE_ok))))))
noncomputable def cN : Code := loopOf 9 (body Try.f8)
def tN (q : Nat) (n : Int) (i : Nat) : List Value := slots 37 [(0, slR 0 q), (1, .int .i64 n), (5, pR 3), (7, .int .i64 (i : Int))]
def sN (b : List Int) (H : HS) : St := [byR b .ro, none, some ⟨[], .rw⟩, hR H, some ⟨[], .rw⟩]
def hNl (m i : Nat) : Hint := ⟨fun r k => match r, k with
  | 9, 2 => some (.read (.int .i64 (m : Int)) [])
  | 9, 3 => some (.pure (.bool true))
  | 11, 2 => some (.eff (.tuple #[]) (fun s => s) [3])
  | 10, 1 => some (.pure (.int .i64 ((i + 1 : Nat) : Int)))
  | _, _ => none, fun _ => none⟩
def hNl0 (m : Nat) : Hint := ⟨fun r k => match r, k with
  | 9, 2 => some (.read (.int .i64 (m : Int)) [])
  | 9, 3 => some (.pure (.bool false))
  | _, _ => none, fun _ => none⟩
theorem stepN (b : List Int) (H : HS) (q m i : Nat) (n : Int) : stepV noEs (hNl m i) 0 cN (List.range 5) [] [0, 1, 5, 7] (tN q n i) (sN b H) = some (.normal, tN q n (i + 1), sN b H) := by kernel_rfl
theorem stepNP (b : List Int) (H : HS) (q m i : Nat) (n : Int) : stepP noEs (hNl m i) 0 cN (tN q n i) (sN b H) =
    (((none : Option Value) = none ∧ effI (callE brE.ks brE.spec [.int .i64 n, .int .i64 9] (sN b H)) (greads brE.ks [.int .i64 n, .int .i64 9]) 5 = some (.int .i64 (m : Int), sN b H, .load [])) ∧ aint .lss .i64 (i : Int) (m : Int) = some (.bool true) ∧
     ((none : Option Value) = none ∧ effI (callE writeE.ks writeE.spec [pR 3, rowR 5 0] (sN b H ++ [byR [] (.row 1)])) (greads writeE.ks [pR 3, rowR 5 0]) 6 = some (.tuple #[], sN b H ++ [byR [] (.row 1)], .eff [3] 6)) ∧
     aint .add .i64 (i : Int) 1 = some (.int .i64 ((i + 1 : Nat) : Int)) ∧ True) := by kernel_rfl
theorem stopN (b : List Int) (H : HS) (q m : Nat) (n : Int) : stepV noEs (hNl0 m) 0 cN (List.range 5) [] [0, 5] (tN q n m) (sN b H) = some (.exit 0, slots 37 [(0, slR 0 q), (5, pR 3)], sN b H) := by kernel_rfl
theorem stopNP (b : List Int) (H : HS) (q m : Nat) (n : Int) : stepP noEs (hNl0 m) 0 cN (tN q n m) (sN b H) =
    (((none : Option Value) = none ∧ effI (callE brE.ks brE.spec [.int .i64 n, .int .i64 9] (sN b H)) (greads brE.ks [.int .i64 n, .int .i64 9]) 5 = some (.int .i64 (m : Int), sN b H, .load [])) ∧ aint .lss .i64 (m : Int) (m : Int) = some (.bool false) ∧ True) := by kernel_rfl
theorem plN (b : List Int) (H : HS) : plainBut [] 0 (sN b H) = true := by
  have e1 : plainReg none = true := rfl
  have e2 : plainReg (hR H) = true := rfl
  have e3 : plainReg (some ⟨[], .rw⟩) = true := rfl
  simp only [sN, plainBut, byR, plainReg_u8, e1, e2, e3, Bool.or_true, Bool.and_true]
theorem absorb_nil (H : HS) : absorb H [] = H := rfl
theorem loopN (b : List Int) (H : HS) (q m : Nat) (n : Int) (hm : n % 9 = (m : Int)) (hs : H.size ≠ 0) (hw : Waits H) : RunsP (.loop cN) (tN q n 0) (sN b H) (.exit 0) (slots 37 [(0, slR 0 q), (5, pR 3)]) (sN b H) := by
  have hlt : (m : Int) < 9 := by rw [← hm]; exact Int.emod_lt_of_pos _ (by decide)
  have hbr : effI (callE brE.ks brE.spec [.int .i64 n, .int .i64 9] (sN b H)) (greads brE.ks [.int .i64 n, .int .i64 9]) 5 = some (.int .i64 (m : Int), sN b H, .load []) := by
    have := owe_bring (s := sN b H) (i := n) (n := 9) (len := 5) (by omega) rfl
    rw [hm] at this
    exact this
  refine Runs.count m (tN q n) (fun _ => sN b H) (fun i hi => ?_) ?_ (by simp)
  · refine step_ok noEs_ok ?_ (stepN b H q m i n) (plN b H)
    rw [stepNP]
    refine ⟨⟨rfl, hbr⟩, lss_eq (by simp; omega), ⟨rfl, ?_⟩, add_i64 (by omega) (by omega), trivial⟩
    exact owe_hwrite (p := 3) (H := H) (b := []) rfl (row_bytes (i := 5) (kd := .row 1) rfl rfl) (by decide) hs hw (by simp)
  · refine step_ok noEs_ok ?_ (stopN b H q m n) (plN b H)
    rw [stopNP]
    exact ⟨⟨rfl, hbr⟩, lss_eq (by simp), trivial⟩
def hNo (b : List Int) (q : Nat) (H : HS) (g : V8) : Hint := ⟨fun r k => match r, k with
  | 7, 2 => some (.eff (.tuple #[]) (fun s => s.set 3 (hR H)) [3])
  | 12, 1 => some (.read (.agg ⟨(out8 g).map (.int .u8)⟩) [0])
  | 13, 1 => some (.eff (sl0 6 32) (fun s => s ++ [byR (out8 g) .rw]) [])
  | 13, 3 => some (.read (.bool true) [6, 5])
  | _, _ => none, fun r => if r = 9 then some ([0, 1, 5, 7], fun _ _ => some (.exit 0, slots 37 [(0, slR 0 q), (5, pR 3)], sN b H)) else none⟩
theorem noR (b : List Int) (q : Nat) (n : Int) (H : HS) (g : V8) : goNH noEs (hNo b q H g) 0 Try.f8 [slR 0 q, .int .i64 n] [byR b .ro, none] = some (.bool true, [byR b .ro, none]) := by kernel_rfl
def H32 : HS := newH 32 []
theorem noP (b : List Int) (q : Nat) (n : Int) (H : HS) (g : V8) : owes noEs (hNo b q H g) 0 Try.f8 [slR 0 q, .int .i64 n] [byR b .ro, none] =
    (((none : Option Value) = none ∧ effI (callE writeE.ks writeE.spec [pR 3, slR 0 q] (sN b H32)) (greads writeE.ks [pR 3, slR 0 q]) 5 = some (.tuple #[], sN b H, .eff [3] 5)) ∧
     RunsP (.loop cN) (tN q n 0) (sN b H) (.exit 0) (slots 37 [(0, slR 0 q), (5, pR 3)]) (sN b H) ∧
     ((none : Option Value) = none ∧ effI (callE bsumE.ks bsumE.spec [slR 0 q] (sN b H)) (greads bsumE.ks [slR 0 q]) 5 = some (.agg ⟨(out8 g).map (.int .u8)⟩, sN b H, .load [0])) ∧
     ((none : Option Value) = none ∧ effI (callE hsumE.ks hsumE.spec [pR 3] (sN b H ++ [byR (out8 g) .rw])) (greads hsumE.ks [pR 3]) 6 = some (sl0 6 32, sN b H ++ [byR (out8 g) .rw] ++ [byR (out8 g) .rw], .eff [] 6)) ∧
     ((none : Option Value) = none ∧ effI (callE eqBytesE.ks eqBytesE.spec [sl0 6 32, slR 5 32] (sN b H ++ [byR (out8 g) .rw] ++ [byR (out8 g) .rw])) (greads eqBytesE.ks [sl0 6 32, slR 5 32]) 7 = some (.bool true, sN b H ++ [byR (out8 g) .rw] ++ [byR (out8 g) .rw], .load [6, 5])) ∧ True) := by kernel_rfl
theorem lawNothing (b : List Int) (n : Int) (hb : b.length ≤ 140737488351232) : AC Try.prog 8 [slR 0 b.length, .int .i64 n] [byR b .ro, none] (.bool true) [byR b .ro, none] := by
  obtain ⟨m, hm⟩ := Int.eq_ofNat_of_zero_le (show 0 ≤ n % 9 from Int.emod_nonneg _ (by decide))
  have w0 : Waits H32 := newH_waits 32 []
  have w1 := absorb_waits w0 b
  have z1 : (absorb H32 b).size = 32 := by rw [absorb_size]; rfl
  refine runNH_ok noEs_ok Try.func8 (by kernel_rfl) ?_ (noR b b.length n (absorb H32 b) (press (clr (absorb H32 b) (absorb H32 b).n.toNat) (absorb H32 b).n true).h) rfl ?_ rfl
  · rw [noP]
    refine ⟨⟨rfl, owe_hwrite (p := 3) rfl (Bys.all (i := 0) rfl) (by decide) (by decide) w0 (by omega)⟩, loopN b _ _ m n hm (by rw [z1]; decide) w1, ⟨rfl, ?_⟩, ⟨rfl, ?_⟩, ⟨rfl, ?_⟩, trivial⟩
    · exact owe_bsum (Bys.all (i := 0) rfl) (by omega) rfl
    · exact owe_hsum (p := 3) (z := 32) (H := absorb H32 b) rfl z1 (by decide) (by decide) w1 rfl
    · exact eq_self (b := out8 (press (clr (absorb H32 b) (absorb H32 b).n.toNat) (absorb H32 b).n true).h) (sl0_bys (i := 6) (z := 32) (l := out8 (press (clr (absorb H32 b) (absorb H32 b).n.toNat) (absorb H32 b).n true).h) rfl (by rw [out8_length]; decide)) (Bys.all (i := 5) (l := out8 (press (clr (absorb H32 b) (absorb H32 b).n.toNat) (absorb H32 b).n true).h) rfl) (by rw [out8_length]; omega) rfl
  · simp only [List.all_cons, List.all_nil, byR, plain_u8, plainReg, Bool.and_true, Bool.and_self]
end Go.Proofs.Ytggkdjhgknghcaa.Bl
