/- The law BlakePieces: the machine's run of all of it. Without conditions. -/
import Derived.Test.YtggkdjhgknghcaaBlV
namespace Go.Proofs.Ytggkdjhgknghcaa.Bl
open Am Run IntWalk Byt

theorem owe_rofXNil {st : St} {x : Value} {i o len : Nat} {size : Int} {key : List Int} (hx : Bys st x i o key) (h : ¬ badN size key.length) (hl : st.length = len) :
    effI (callE rofE.ks rofE.spec [.int .i64 size, x, nv] st) (greads rofE.ks [.int .i64 size, x, nv]) len = some (.tuple #[rowR (len + 1) size.toNat, .int .i64 0], st ++ [nilR] ++ [byR (digR size key []) (.row 1)], .eff [] len) := by
  subst hl
  have hbr : bares rofE.ks [.int .i64 size, x, nv] = true := by simp only [rofE, bares, hx.bare, Bool.false_or]; rfl
  have h3 : ∀ e, pick1 e (0 + 1 + 1) (.sl false) nv = some (slR 2 0, some ⟨e, 0, 0, false⟩) := fun _ => rfl
  have hpk : picks st.length rofE.ks 0 [.int .i64 size, x, nv] = some (argsO size key.length 0, [none, some ⟨i, o, key.length, false⟩, some ⟨st.length, 0, 0, false⟩]) := by simp only [rofE, picks, hx.pick, h3]; rfl
  have hy' : Bys (st ++ [some ⟨[], .rw⟩]) (slR st.length 0) st.length 0 [] := Bys.all (l := []) (kd := .rw) (by simp [byR])
  have hx' : Bys (st ++ [some ⟨[], .rw⟩]) x i o key := by
    obtain ⟨a, c, cs, kd, rfl, hb, hc, hs, hn, hl⟩ := hx.ex
    exact ⟨a, c, cs, kd, rfl, hb, hc, by rw [List.getElem?_append_left (List.getElem?_eq_some_iff.1 hs).1]; exact hs, hn, hl⟩
  refine owe_bare hbr hpk rfl ?_
  rw [gcall_bare hbr]
  have := gcall0_look (e := st.length) (ks := rofE.ks) (spec := rofE.spec) (st := st ++ [some ⟨[], .rw⟩]) (sst := sO key []) (news := [byR (digR size key []) (.row 1)]) (news' := [byR (digR size key []) (.row 1)]) (res := .tuple #[rowR 3 size.toNat, .int .i64 0]) (res' := .tuple #[rowR (st.length + 1) size.toNat, .int .i64 0])
    hpk (smalls_none (hx'.small (hy'.small smalls_nil))) (by simp [disjFps, disj1]) (by
      simp only [rofE]
      rw [show argsO size key.length 0 = argsO size key.length ([] : List Int).length from rfl, rofSpec_cells (by simp), if_neg h]) (by simp) (mapO_plainReg (by simp only [List.all_cons, List.all_nil, byR, plainReg, plain_u8, Bool.and_true])) (by
      rw [show (st ++ [some (⟨[], .rw⟩ : Reg)]).length = st.length + 1 by simp]
      rfl)
  exact this
theorem owe_rofXNilBad {st : St} {x : Value} {i o len : Nat} {size : Int} {key : List Int} (hx : Bys st x i o key) (h : badN size key.length) (hl : st.length = len) :
    effI (callE rofE.ks rofE.spec [.int .i64 size, x, nv] st) (greads rofE.ks [.int .i64 size, x, nv]) len = some (.tuple #[nv, .int .i64 2], st ++ [nilR], .eff [] len) := by
  subst hl
  have hbr : bares rofE.ks [.int .i64 size, x, nv] = true := by simp only [rofE, bares, hx.bare, Bool.false_or]; rfl
  have h3 : ∀ e, pick1 e (0 + 1 + 1) (.sl false) nv = some (slR 2 0, some ⟨e, 0, 0, false⟩) := fun _ => rfl
  have hpk : picks st.length rofE.ks 0 [.int .i64 size, x, nv] = some (argsO size key.length 0, [none, some ⟨i, o, key.length, false⟩, some ⟨st.length, 0, 0, false⟩]) := by simp only [rofE, picks, hx.pick, h3]; rfl
  have hy' : Bys (st ++ [some ⟨[], .rw⟩]) (slR st.length 0) st.length 0 [] := Bys.all (l := []) (kd := .rw) (by simp [byR])
  have hx' : Bys (st ++ [some ⟨[], .rw⟩]) x i o key := by
    obtain ⟨a, c, cs, kd, rfl, hb, hc, hs, hn, hl⟩ := hx.ex
    exact ⟨a, c, cs, kd, rfl, hb, hc, by rw [List.getElem?_append_left (List.getElem?_eq_some_iff.1 hs).1]; exact hs, hn, hl⟩
  refine owe_bare hbr hpk rfl ?_
  rw [gcall_bare hbr]
  have := gcall0_look (e := st.length) (ks := rofE.ks) (spec := rofE.spec) (st := st ++ [some ⟨[], .rw⟩]) (sst := sO key []) (news := []) (news' := []) (res := .tuple #[.slice none 0 0, .int .i64 2]) (res' := .tuple #[.slice none 0 0, .int .i64 2])
    hpk (smalls_none (hx'.small (hy'.small smalls_nil))) (by simp [disjFps, disj1]) (by
      simp only [rofE]
      rw [show argsO size key.length 0 = argsO size key.length ([] : List Int).length from rfl, rofSpec_cells (by simp), if_pos h]
      simp) (by simp) rfl rfl
  simpa [nilR, nv] using this

/-! where a hash may be made -/
def aPi (size : Int) (p n : Nat) : List Value := [.int .i64 size, slR 1 p, slR 2 n]
def wv (z : Nat) : Value := .slice (some ⟨72, 0, none⟩) z z
def Qz (H O : HS) (al want : List Int) : St := [hR H, nilR, hR O, byR al (.row 1), byR want (.row 1)]
def Qy (H O : HS) (al want d : List Int) : St := [hR H, nilR, hR O, byR al (.row 1), byR want (.row 1), byR d .rw]
def tM0 (size : Int) (p n : Nat) : List Value := slots 166 [(0, .int .i64 size), (1, slR 1 p), (2, slR 2 n), (8, pR 67), (9, .int .i64 0), (13, pR 69), (15, nv), (16, .int .i64 0)]
def kR (key : List Int) : Option Reg := byR key (.row 1)
def hG (key : List Int) (n : Nat) (b : Nat → List Int) (size : Int) (p nk z : Nat) (H Hk Ok : HS) (dg al want d : List Int) : Hint := ⟨fun r k => match r, k with
  | 1, 1 => some (.eff (rowR 67 p) (fun s => s ++ [kR key]) [])
  | 2, 2 => some (.eff (.tuple #[pR 68, .int .i64 0]) (fun s => s ++ [hR H]) [])
  | 3, 2 => some (.eff (.tuple #[rowR 70 z, .int .i64 0]) (fun s => s ++ [nilR] ++ [byR dg (.row 1)]) [])
  | 4, 13 => some (.read (.bool true) [67, 1])
  | 34, 3 => some (.eff (.tuple #[rowR 71 z, .int .i64 0]) (fun s => s ++ [byR want (.row 1)]) [])
  | 35, 1 => some (.eff (wv z) (fun s => s ++ [byR d .rw]) [])
  | 35, 3 => some (.read (.bool true) [72, 71])
  | _, _ => none, fun r => if r = 7 then some ([0, 1, 2, 7, 8, 9, 12], fun _ _ => some (.exit 0, t7e true size p n, sPi key n b [hR H]))
    else if r = 13 then some ([0, 1, 2, 8, 9, 13, 15, 16], fun _ _ => some (.exit 2, tMe size p n nk, sPi key n b (Qa Hk Ok al))) else none⟩
theorem goodR (key : List Int) (n : Nat) (b : Nat → List Int) (size : Int) (p nk z : Nat) (H Hk Ok : HS) (dg al want d : List Int) : goX piEs (hG key n b size p nk z H Hk Ok dg al want d) 0 Try.f4 (aPi size p n) (sPi key n b []) = some (.bool true) := by kernel_rfl
theorem goodP (key : List Int) (n : Nat) (b : Nat → List Int) (size : Int) (p nk z : Nat) (H Hk Ok : HS) (dg al want d : List Int) : owes piEs (hG key n b size p nk z H Hk Ok dg al want d) 0 Try.f4 (aPi size p n) (sPi key n b []) =
    (((none : Option Value) = none ∧ effI (callE copyBytesE.ks copyBytesE.spec [slR 1 p] (sPi key n b [])) (greads copyBytesE.ks [slR 1 p]) 67 = some (rowR 67 p, sPi key n b [kR key], .eff [] 67)) ∧
     ((none : Option Value) = none ∧ effI (callE newE.ks newE.spec [.int .i64 size, rowR 67 p] (sPi key n b [kR key])) (greads newE.ks [.int .i64 size, rowR 67 p]) 68 = some (.tuple #[pR 68, .int .i64 0], sPi key n b [kR key, hR H], .eff [] 68)) ∧
     ((none : Option Value) = none ∧ effI (callE rofE.ks rofE.spec [.int .i64 size, slR 1 p, nv] (sPi key n b [kR key, hR H])) (greads rofE.ks [.int .i64 size, slR 1 p, nv]) 69 = some (.tuple #[rowR 70 z, .int .i64 0], sPi key n b (q7 key H dg true), .eff [] 69)) ∧
     ((none : Option Value) = none ∧ effI (callE eqBytesE.ks eqBytesE.spec [rowR 67 p, slR 1 p] (sPi key n b (q7 key H dg true))) (greads eqBytesE.ks [rowR 67 p, slR 1 p]) 71 = some (.bool true, sPi key n b (q7 key H dg true), .load [67, 1])) ∧
     RunsP (.loop c7) (t7 true size p n 0) (sPi key n b (q7 key H dg true)) (.exit 0) (t7e true size p n) (sPi key n b [hR H]) ∧
     RunsP (.loop c13) (tM0 size p n) (sPi key n b [hR H, nilR, hR (newH 32 [])]) (.exit 2) (tMe size p n nk) (sPi key n b (Qa Hk Ok al)) ∧
     ((none : Option Value) = none ∧ effI (callE rofE.ks rofE.spec (rA size p 70 nk) (sPi key n b (Qa Hk Ok al))) (greads rofE.ks (rA size p 70 nk)) 71 = some (.tuple #[rowR 71 z, .int .i64 0], sPi key n b (Qz Hk Ok al want), .eff [] 71)) ∧
     ((none : Option Value) = none ∧ effI (callE hsumE.ks hsumE.spec [pR 67] (sPi key n b (Qz Hk Ok al want))) (greads hsumE.ks [pR 67]) 72 = some (wv z, sPi key n b (Qy Hk Ok al want d), .eff [] 72)) ∧
     ((none : Option Value) = none ∧ effI (callE eqBytesE.ks eqBytesE.spec [wv z, rowR 71 z] (sPi key n b (Qy Hk Ok al want d))) (greads eqBytesE.ks [wv z, rowR 71 z]) 73 = some (.bool true, sPi key n b (Qy Hk Ok al want d), .load [72, 71])) ∧ True) := by kernel_rfl
theorem loopM0 {size : Int} {key : List Int} {n : Nat} {b : Nat → List Int} {te : List Value} {se : St} (h : RunsP (.loop c13) (tM size key.length n 0 0) (sPi key n b (Qa (newH size key) (newH 32 []) [])) (.exit 2) te se) :
    RunsP (.loop c13) (tM0 size key.length n) (sPi key n b [hR (newH size key), nilR, hR (newH 32 [])]) (.exit 2) te se := by
  refine Runs.nilRow (j := 15) (z := 1) rfl (by decide) ?_
  rw [sPi_length, sPi_app]
  exact h
theorem good_ac {size : Int} {key : List Int} {n : Nat} {b : Nat → List Int} (hs : ¬ badN size key.length) (hK : ∀ y ∈ key, B8 y) (hB : ∀ i, ∀ y ∈ b i, B8 y) : ∃ s', AC Try.prog 4 (aPi size key.length n) (sPi key n b []) (.bool true) s' := by
  have hs' := hs
  unfold badN at hs'
  obtain ⟨k, hk⟩ : ∃ k, k = min n 64 := ⟨_, rfl⟩
  have g1 := alL_length b k
  obtain ⟨w1, w2, _⟩ := HsL_facts (size := size) (key := key) (by omega) b k (by omega)
  obtain ⟨z, hz⟩ := Int.eq_ofNat_of_zero_le (show 0 ≤ size by omega)
  have hzn : size.toNat = z := by omega
  have hd := HsL_sum (size := size) (key := key) (by omega) b (i := k) (by omega)
  have hdl : (digL size key (alL b k)).length = 32 := digL_length _ _ _
  have hwl := digR_length (b := alL b k) hs
  have he := dig_eq (size := size) (key := key) (b := alL b k) (by omega) (by omega) hK (alL_B8 hB k)
  refine runX_ok piEs_ok Try.func4 (by kernel_rfl) ?_ (goodR key n b size key.length (alL b k).length z (newH size key) (HsL size key b k) (OsL k) (digR size key []) (alL b k) (digR size key (alL b k)) (digL size key (alL b k)))
  rw [goodP]
  refine ⟨⟨rfl, ?_⟩, ⟨rfl, ?_⟩, ⟨rfl, ?_⟩, ⟨rfl, ?_⟩, loop7 key n b _ _ size (by omega) true, loopM0 (loopM hs hK hB hk), ⟨rfl, ?_⟩, ⟨rfl, ?_⟩, ⟨rfl, ?_⟩, trivial⟩
  · have := owe_copy (s := sPi key n b []) (len := 67) (Bys.all (i := 1) (l := key) (kd := .ro) rfl) (by omega) (sPi_length _ _ _ _)
    rw [sPi_app] at this
    exact this
  · have := owe_new (st := sPi key n b [kR key]) (len := 68) (size := size) (Bys.row (i := 67) (l := key) (kd := .row 1) (by rw [sPi_get (k := 0) rfl]; rfl)) hs (sPi_length _ _ _ _)
    rw [sPi_app] at this
    exact this
  · have := owe_rofXNil (st := sPi key n b [kR key, hR (newH size key)]) (len := 69) (size := size) (Bys.all (i := 1) (l := key) (kd := .ro) rfl) hs (sPi_length _ _ _ _)
    rw [hzn, sPi_app, sPi_app] at this
    exact this
  · exact eq_self (b := key) (Bys.row (i := 67) (l := key) (kd := .row 1) (by rw [sPi_get (k := 0) rfl]; rfl)) (Bys.all (i := 1) (l := key) (kd := .ro) rfl) (by omega) (sPi_length _ _ _ _)
  · have := owe_rof (st := sPi key n b (Qa (HsL size key b k) (OsL k) (alL b k))) (len := 71) (size := size) (Bys.all (i := 1) (l := key) (kd := .ro) rfl) (Bys.row (i := 70) (l := alL b k) (kd := .row 1) (by rw [sPi_get (k := 3) rfl]; rfl)) (by omega) hs (sPi_length _ _ _ _)
    rw [hzn, sPi_app] at this
    exact this
  · have := owe_hsum (st := sPi key n b (Qz (HsL size key b k) (OsL k) (alL b k) (digR size key (alL b k)))) (p := 67) (z := z) (len := 72) (H := HsL size key b k) (by rw [sPi_get (k := 0) rfl]; rfl) (by rw [w2]; exact hz) (by omega) (by omega) w1 (sPi_length _ _ _ _)
    rw [hd, sPi_app] at this
    exact this
  · rw [hzn] at he hwl
    have hb := Bys.part (st := sPi key n b (Qy (HsL size key b k) (OsL k) (alL b k) (digR size key (alL b k)) (digL size key (alL b k)))) (i := 72) (off := 0) (n := z) (c := z) (cs := digL size key (alL b k)) (kd := .rw) (by rw [sPi_get (k := 5) rfl]; rfl) (by omega) (Nat.le_refl _)
    rw [List.drop_zero, he] at hb
    exact eq_self (b := digR size key (alL b k)) hb (row_bytes (i := 71) (kd := .row 1) (by rw [sPi_get (k := 4) rfl]; rfl) hwl) (by omega) (sPi_length _ _ _ _)

/-! where none may -/
def hBd (key : List Int) (n : Nat) (b : Nat → List Int) (size : Int) (p : Nat) (c : Bool) : Hint := ⟨fun r k => match r, k with
  | 1, 1 => some (.eff (rowR 67 p) (fun s => s ++ [kR key]) [])
  | 2, 2 => some (.read (.tuple #[.pointer none, .int .i64 2]) [67])
  | 3, 2 => some (.eff (.tuple #[nv, .int .i64 2]) (fun s => s ++ [nilR]) [])
  | 4, 13 => some (.read (.bool true) [67, 1])
  | 13, 3 => some (.pure (.bool c))
  | 34, 3 => some (.eff (.tuple #[nv, .int .i64 2]) (fun s => s ++ [nilR]) [])
  | _, _ => none, fun r => if r = 7 then some ([0, 1, 2, 7, 8, 9, 12], fun _ _ => some (.exit 0, t7e false size p n, sPi key n b [])) else none⟩
theorem badR (key : List Int) (n : Nat) (b : Nat → List Int) (size : Int) (p : Nat) : ∀ c, goX piEs (hBd key n b size p c) 2 Try.f4 (aPi size p n) (sPi key n b []) = some (.bool true)
  | true => by kernel_rfl
  | false => by kernel_rfl
theorem badP (key : List Int) (n : Nat) (b : Nat → List Int) (size : Int) (p : Nat) : ∀ c, owes piEs (hBd key n b size p c) 2 Try.f4 (aPi size p n) (sPi key n b []) =
    (((none : Option Value) = none ∧ effI (callE copyBytesE.ks copyBytesE.spec [slR 1 p] (sPi key n b [])) (greads copyBytesE.ks [slR 1 p]) 67 = some (rowR 67 p, sPi key n b [kR key], .eff [] 67)) ∧
     ((none : Option Value) = none ∧ effI (callE newE.ks newE.spec [.int .i64 size, rowR 67 p] (sPi key n b [kR key])) (greads newE.ks [.int .i64 size, rowR 67 p]) 68 = some (.tuple #[.pointer none, .int .i64 2], sPi key n b [kR key], .load [67])) ∧
     ((none : Option Value) = none ∧ effI (callE rofE.ks rofE.spec [.int .i64 size, slR 1 p, nv] (sPi key n b [kR key])) (greads rofE.ks [.int .i64 size, slR 1 p, nv]) 68 = some (.tuple #[nv, .int .i64 2], sPi key n b [kR key, nilR], .eff [] 68)) ∧
     ((none : Option Value) = none ∧ effI (callE eqBytesE.ks eqBytesE.spec [rowR 67 p, slR 1 p] (sPi key n b [kR key, nilR])) (greads eqBytesE.ks [rowR 67 p, slR 1 p]) 69 = some (.bool true, sPi key n b [kR key, nilR], .load [67, 1])) ∧
     RunsP (.loop c7) (t7 false size p n 0) (sPi key n b (q7 key (newH 32 []) [] false)) (.exit 0) (t7e false size p n) (sPi key n b []) ∧
     aint .lss .i64 0 (n : Int) = some (.bool c) ∧
     ((none : Option Value) = none ∧ effI (callE rofE.ks rofE.spec [.int .i64 size, slR 1 p, nv] (sPi key n b [nilR, hR (newH 32 [])])) (greads rofE.ks [.int .i64 size, slR 1 p, nv]) 69 = some (.tuple #[nv, .int .i64 2], sPi key n b [nilR, hR (newH 32 []), nilR], .eff [] 69)) ∧ True)
  | true => by kernel_rfl
  | false => by kernel_rfl
theorem bad_ac {size : Int} {key : List Int} {n : Nat} {b : Nat → List Int} (hs : badN size key.length) (hk : key.length ≤ 140737488351232) : ∃ s', AC Try.prog 4 (aPi size key.length n) (sPi key n b []) (.bool true) s' := by
  refine runX_ok piEs_ok Try.func4 (by kernel_rfl) ?_ (badR key n b size key.length (decide (0 < n)))
  rw [badP]
  refine ⟨⟨rfl, ?_⟩, ⟨rfl, ?_⟩, ⟨rfl, ?_⟩, ⟨rfl, ?_⟩, loop7 key n b [] (newH 32 []) size (by omega) false, lss_eq (by simp), ⟨rfl, ?_⟩, trivial⟩
  · have := owe_copy (s := sPi key n b []) (len := 67) (Bys.all (i := 1) (l := key) (kd := .ro) rfl) (by omega) (sPi_length _ _ _ _)
    rw [sPi_app] at this
    exact this
  · exact owe_newBad (st := sPi key n b [kR key]) (len := 68) (size := size) (Bys.row (i := 67) (l := key) (kd := .row 1) (by rw [sPi_get (k := 0) rfl]; rfl)) hs (sPi_length _ _ _ _)
  · have := owe_rofXNilBad (st := sPi key n b [kR key]) (len := 68) (size := size) (Bys.all (i := 1) (l := key) (kd := .ro) rfl) hs (sPi_length _ _ _ _)
    rw [sPi_app] at this
    exact this
  · exact eq_self (b := key) (Bys.row (i := 67) (l := key) (kd := .row 1) (by rw [sPi_get (k := 0) rfl]; rfl)) (Bys.all (i := 1) (l := key) (kd := .ro) rfl) (by omega) (sPi_length _ _ _ _)
  · have := owe_rofXNilBad (st := sPi key n b [nilR, hR (newH 32 [])]) (len := 69) (size := size) (Bys.all (i := 1) (l := key) (kd := .ro) rfl) hs (sPi_length _ _ _ _)
    rw [sPi_app] at this
    exact this
theorem lawPieces (size : Int) (key : List Int) (n : Nat) (b : Nat → List Int) (hK : ∀ y ∈ key, B8 y) (hB : ∀ i, ∀ y ∈ b i, B8 y) (hk : key.length ≤ 140737488351232) : ∃ s', AC Try.prog 4 (aPi size key.length n) (sPi key n b []) (.bool true) s' := by
  by_cases h : badN size key.length
  · exact bad_ac h hk
  · exact good_ac h hK hB
end Go.Proofs.Ytggkdjhgknghcaa.Bl
