/- The law BlakePieces: the machine's run of the great loop, and of all. Without conditions. -/
import Derived.Test.YtggkdjhgknghcaaBlN
namespace Go.Proofs.Ytggkdjhgknghcaa.Bl
open Am Run IntWalk Byt

noncomputable def c13 : Code := loopOf 13 (body Try.f4)
def tM (size : Int) (p n na : Nat) (i : Int) : List Value := slots 166 (slB size p n 70 na i)
def tMe (size : Int) (p n na : Nat) : List Value := slots 166 [(0, .int .i64 size), (1, slR 1 p), (8, pR 67), (15, rowR 70 na)]
def w8 (i : Nat) : Int := IntKind.u8.wrap (i : Int)
def hM (key : List Int) (n : Nat) (b : Nat → List Int) (size : Int) (p i : Nat) (i1 : Int) (m q na na' z : Nat) (H' O' : HS) (al al' pc want d : List Int) : Hint := ⟨fun r k => match r, k with
  | 13, 3 => some (.pure (.bool true))
  | 13, 6 => some (.pure (.bool true))
  | 15, 2 => some (.pure (.pointer (some ⟨2, i, none⟩)))
  | 15, 3 => some (.load (slR (3 + i) m) 2)
  | 15, 6 => some (.pure (.pointer (some ⟨2, i, none⟩)))
  | 15, 7 => some (.load (slR (3 + i) m) 2)
  | 15, 9 => some (.pure (.int .i64 (q : Int)))
  | 15, 10 => some (.pure (pcV i q m))
  | 16, 1 => some (.eff (rowR 71 q) (fun s => s ++ [byR pc (.row 1)]) [])
  | 17, 2 => some (.eff (.tuple #[]) (fun s => s.set 67 (hR H')) [67])
  | 18, 4 => some (.eff (.tuple #[]) (fun s => s.set 69 (hR O')) [69])
  | 19, 2 => some (.read (.bool true) [71, 3 + i])
  | 25, 2 => some (.eff (rowR 73 na') (fun s => s.set 70 none ++ [byR al' (.row 1)]) [70])
  | 26, 3 => some (.eff (.tuple #[rowR 74 z, .int .i64 0]) (fun s => s ++ [byR want (.row 1)]) [])
  | 27, 1 => some (.eff (dv z) (fun s => s ++ [byR d .rw]) [])
  | 28, 2 => some (.read (.bool true) [75, 74])
  | 14, 1 => some (.pure (.int .i64 i1))
  | _, _ => none, fun r => if r = 22 then some ([0, 1, 2, 8, 9, 13, 15, 16, 17, 18, 19], fun _ _ => some (.exit 4, t22e size p n na i q m, sPi key n b (Qr H' O' al (pc.map inc8) (w8 i))))
    else if r = 31 then some ([0, 1, 2, 8, 9, 13, 15, 16, 22, 23], fun _ _ => some (.exit 6, t31e size p n na' i, sPi key n b (Qs H' O' (pc.map inc8) (w8 i) al' want (zl d z)))) else none⟩
theorem stepM (key : List Int) (n : Nat) (b : Nat → List Int) (size : Int) (p i : Nat) (i1 : Int) (m q na na' z : Nat) (H H' O O' : HS) (al al' pc want d : List Int) :
    stepB none piEs (hM key n b size p i i1 m q na na' z H' O' al al' pc want d) 0 c13 (List.range 70 ++ [73]) [0, 1, 2, 8, 9, 13, 15, 16] [] (tM size p n na (i : Int)) (sPi key n b (Qa H O al)) = some (.normal, tM size p n na' i1, sPi key n b (Qa H' O' al')) := by kernel_rfl
def rA (size : Int) (p r na : Nat) : List Value := [.int .i64 size, slR 1 p, rowR r na]
theorem stepMP (key : List Int) (n : Nat) (b : Nat → List Int) (size : Int) (p i : Nat) (i1 : Int) (m q na na' z : Nat) (H H' O O' : HS) (al al' pc want d : List Int) :
    stepP piEs (hM key n b size p i i1 m q na na' z H' O' al al' pc want d) 0 c13 (tM size p n na (i : Int)) (sPi key n b (Qa H O al)) =
    (aint .lss .i64 (i : Int) (n : Int) = some (.bool true) ∧ aint .lss .i64 (i : Int) 64 = some (.bool true) ∧
     idxAt 2 0 1 n (i : Int) = some (.pointer (some ⟨2, i, none⟩)) ∧ cellAt (sPi key n b (Qa H O al)) 2 i = some (slR (3 + i) m, 2) ∧
     idxAt 2 0 1 n (i : Int) = some (.pointer (some ⟨2, i, none⟩)) ∧ cellAt (sPi key n b (Qa H O al)) 2 i = some (slR (3 + i) m, 2) ∧
     aminmax false [.int .i64 (m : Int), .int .i64 1000] = some (.int .i64 (q : Int)) ∧ cut (3 + i) 0 m m 1 none (some (.int .i64 (q : Int))) none = some (pcV i q m) ∧
     ((none : Option Value) = none ∧ effI (callE copyBytesE.ks copyBytesE.spec [pcV i q m] (sPi key n b (Qa H O al))) (greads copyBytesE.ks [pcV i q m]) 71 = some (rowR 71 q, sPi key n b (Qb H O al pc), .eff [] 71)) ∧
     ((none : Option Value) = none ∧ effI (callE writeE.ks writeE.spec [pR 67, rowR 71 q] (sPi key n b (Qb H O al pc))) (greads writeE.ks [pR 67, rowR 71 q]) 72 = some (.tuple #[], sPi key n b (Qb H' O al pc), .eff [67] 72)) ∧
     ((none : Option Value) = none ∧ effI (callE writeE.ks writeE.spec [pR 69, rowR 72 1] (sPi key n b (Qr H' O al pc (w8 i)))) (greads writeE.ks [pR 69, rowR 72 1]) 73 = some (.tuple #[], sPi key n b (Qr H' O' al pc (w8 i)), .eff [69] 73)) ∧
     ((none : Option Value) = none ∧ effI (callE eqBytesE.ks eqBytesE.spec [rowR 71 q, pcV i q m] (sPi key n b (Qr H' O' al pc (w8 i)))) (greads eqBytesE.ks [rowR 71 q, pcV i q m]) 73 = some (.bool true, sPi key n b (Qr H' O' al pc (w8 i)), .load [71, 3 + i])) ∧
     RunsP (.loop c22) (t22 size p n na i q m 0) (sPi key n b (Qr H' O' al pc (w8 i))) (.exit 4) (t22e size p n na i q m) (sPi key n b (Qr H' O' al (pc.map inc8) (w8 i))) ∧
     ((none : Option Value) = none ∧ effI (appendCore (sPi key n b (Qr H' O' al (pc.map inc8) (w8 i))) 1 1 (.int .u8 0) (rowR 70 na) (source (sPi key n b (Qr H' O' al (pc.map inc8) (w8 i))) 1 (pcV i q m))) none 73 = some (rowR 73 na', sPi key n b (Qd H' O' (pc.map inc8) (w8 i) al'), .eff [70] 73)) ∧
     ((none : Option Value) = none ∧ effI (callE rofE.ks rofE.spec (rA size p 73 na') (sPi key n b (Qd H' O' (pc.map inc8) (w8 i) al'))) (greads rofE.ks (rA size p 73 na')) 74 = some (.tuple #[rowR 74 z, .int .i64 0], sPi key n b (Qe H' O' (pc.map inc8) (w8 i) al' want), .eff [] 74)) ∧
     ((none : Option Value) = none ∧ effI (callE hsumE.ks hsumE.spec [pR 67] (sPi key n b (Qe H' O' (pc.map inc8) (w8 i) al' want))) (greads hsumE.ks [pR 67]) 75 = some (dv z, sPi key n b (Qs H' O' (pc.map inc8) (w8 i) al' want d), .eff [] 75)) ∧
     ((none : Option Value) = none ∧ effI (callE eqBytesE.ks eqBytesE.spec [dv z, rowR 74 z] (sPi key n b (Qs H' O' (pc.map inc8) (w8 i) al' want d))) (greads eqBytesE.ks [dv z, rowR 74 z]) 76 = some (.bool true, sPi key n b (Qs H' O' (pc.map inc8) (w8 i) al' want d), .load [75, 74])) ∧
     RunsP (.loop c31) (t31 size p n na' i z 0) (sPi key n b (Qs H' O' (pc.map inc8) (w8 i) al' want d)) (.exit 6) (t31e size p n na' i) (sPi key n b (Qs H' O' (pc.map inc8) (w8 i) al' want (zl d z))) ∧
     aint .add .i64 (i : Int) 1 = some (.int .i64 i1) ∧ True) := by kernel_rfl
def hMe (more : Bool) : Hint := ⟨fun r k => if r = 13 then (match k with
  | 3 => some (.pure (.bool more))
  | 6 => if more then some (.pure (.bool false)) else none
  | _ => none) else none, fun _ => none⟩
theorem stopM (key : List Int) (n : Nat) (b : Nat → List Int) (size : Int) (p na : Nat) (x : Int) (H O : HS) (al : List Int) : ∀ g, stepB none piEs (hMe g) 0 c13 (List.range 71) [0, 1, 8, 15] [] (tM size p n na x) (sPi key n b (Qa H O al)) = some (.exit 2, tMe size p n na, sPi key n b (Qa H O al))
  | true => by kernel_rfl
  | false => by kernel_rfl
theorem stopMP0 (key : List Int) (n : Nat) (b : Nat → List Int) (size : Int) (p na : Nat) (x : Int) (H O : HS) (al : List Int) : stepP piEs (hMe false) 0 c13 (tM size p n na x) (sPi key n b (Qa H O al)) = (aint .lss .i64 x (n : Int) = some (.bool false) ∧ True) := by kernel_rfl
theorem stopMP1 (key : List Int) (n : Nat) (b : Nat → List Int) (size : Int) (p na : Nat) (x : Int) (H O : HS) (al : List Int) : stepP piEs (hMe true) 0 c13 (tM size p n na x) (sPi key n b (Qa H O al)) = (aint .lss .i64 x (n : Int) = some (.bool true) ∧ aint .lss .i64 x 64 = some (.bool false) ∧ True) := by kernel_rfl

/-! what is hashed -/
def pieceL (b : Nat → List Int) (i : Nat) : List Int := (b i).take 1000
def alL (b : Nat → List Int) : Nat → List Int
  | 0 => []
  | i + 1 => alL b i ++ pieceL b i
def HsL (size : Int) (key : List Int) (b : Nat → List Int) : Nat → HS
  | 0 => newH size key
  | i + 1 => absorb (HsL size key b i) (pieceL b i)
def OsL : Nat → HS
  | 0 => newH 32 []
  | i + 1 => absorb (OsL i) [w8 i]
theorem pieceL_length (b : Nat → List Int) (i : Nat) : (pieceL b i).length ≤ 1000 := by unfold pieceL; rw [List.length_take]; omega
theorem alL_length (b : Nat → List Int) : ∀ i, (alL b i).length ≤ 1000 * i
  | 0 => Nat.le_refl _
  | i + 1 => by
    have := alL_length b i
    have := pieceL_length b i
    simp only [alL, List.length_append]; omega
theorem OsL_facts : ∀ i, Waits (OsL i) ∧ (OsL i).size = 32
  | 0 => ⟨newH_waits _ _, newH_size _ _⟩
  | i + 1 => by
    obtain ⟨h1, h2⟩ := OsL_facts i
    exact ⟨absorb_waits h1 _, by simp only [OsL]; rw [absorb_size]; exact h2⟩
theorem HsL_facts {size : Int} {key : List Int} (hk : key.length ≤ 32) (b : Nat → List Int) : ∀ i, i ≤ 64 → Waits (HsL size key b i) ∧ (HsL size key b i).size = size ∧ Has (h0 size key.length) (keyB key ++ alL b i) (HsL size key b i)
  | 0, _ => ⟨newH_waits _ _, newH_size _ _, by simpa [alL, HsL] using newH_has (size := size) hk⟩
  | i + 1, hi => by
    obtain ⟨h1, h2, h3⟩ := HsL_facts hk b i (by omega)
    have g1 := alL_length b i
    have g2 := pieceL_length b i
    have g3 := keyB_length hk
    refine ⟨absorb_waits h1 _, by simp only [HsL]; rw [absorb_size]; exact h2, ?_⟩
    have := absorb_has (l := pieceL b i) h3 (by rw [List.length_append]; omega)
    rw [List.append_assoc] at this
    exact this
theorem HsL_sum {size : Int} {key : List Int} (hk : key.length ≤ 32) (b : Nat → List Int) {i : Nat} (hi : i ≤ 64) : sumL (HsL size key b i) = digL size key (alL b i) := by
  have g1 := alL_length b i
  have g3 := keyB_length hk
  rw [sumL_has (HsL_facts hk b i hi).2.2 (by rw [List.length_append]; omega), digL_D hk (by omega)]
theorem alL_B8 {b : Nat → List Int} (hb : ∀ i, ∀ y ∈ b i, B8 y) : ∀ i, ∀ y ∈ alL b i, B8 y
  | 0, y, hy => by cases hy
  | i + 1, y, hy => by
    rcases List.mem_append.1 hy with h | h
    · exact alL_B8 hb i y h
    · exact hb i y (List.mem_of_mem_take h)
theorem min_1000 {m q : Nat} (h : q = min m 1000) : aminmax false [.int .i64 (m : Int), .int .i64 1000] = some (.int .i64 (q : Int)) := by
  simp only [aminmax, if_true, Bool.false_eq_true, if_false]
  congr 2
  split <;> omega
theorem source_bys {st : St} {v : Value} {i off : Nat} {l : List Int} (h : Bys st v i off l) : source st 1 v = some (l.length, l.map (.int .u8)) := by
  obtain ⟨a, c, cs, kd, rfl, hb, hc, hs, hn, hl⟩ := h.ex
  have := rd_u8 (off := off) (n := l.length * 1) hs (by omega)
  rw [Nat.mul_one] at this
  simp only [source, hb, Nat.mul_one, this, hl]
theorem ids70 : idsOk (List.range 70 ++ [73]) = true := by kernel_rfl
theorem Qa_plain (H O : HS) (al : List Int) : (Qa H O al).all plainReg = true := by simp only [Qa, List.all_cons, List.all_nil, byR_plain, nilR_plain, hR_plain, Bool.and_true]
theorem dv_bys {st : St} {z : Nat} {l r : List Int} (h : st[75]? = some (byR l .rw)) (hz : z ≤ l.length) (hr : l.take z = r) : Bys st (dv z) 75 0 r := by
  have := Bys.part (st := st) (i := 75) (off := 0) (n := z) (c := z) h (by omega) (Nat.le_refl _)
  rw [List.drop_zero, hr] at this
  exact this
theorem pcV_bys {key : List Int} {n : Nat} {b : Nat → List Int} {q : St} {i k : Nat} (hi : i < 64) (hk : k = min (b i).length 1000) : Bys (sPi key n b q) (pcV i k (b i).length) (3 + i) 0 (pieceL b i) := by
  have := Bys.part (i := 3 + i) (off := 0) (n := k) (c := (b i).length) (cs := b i) (kd := .ro) (sPi_in (key := key) (n := n) (q := q) hi) (by omega) (by omega)
  rw [List.drop_zero] at this
  have e : (b i).take k = pieceL b i := by
    unfold pieceL
    rw [hk]
    by_cases h : (b i).length ≤ 1000
    · rw [Nat.min_eq_left h, List.take_length, List.take_of_length_le h]
    · rw [Nat.min_eq_right (by omega)]
  rw [e] at this
  exact this
theorem cell_out {key : List Int} {n : Nat} {b : Nat → List Int} {q : St} {i : Nat} (hi : i < 64) (hn : i < n) : cellAt (sPi key n b q) 2 i = some (slR (3 + i) (b i).length, 2) := by
  unfold cellAt
  have e : (sPi key n b q)[2]? = some (some ⟨outC n b, .ro⟩) := rfl
  rw [e]
  have e2 : (outC n b)[i]? = some (slR (3 + i) (b i).length) := by
    unfold outC
    rw [List.getElem?_map, List.getElem?_range (by omega)]
    rfl
  simp only [e2]
theorem roundM {size : Int} {key : List Int} {n : Nat} {b : Nat → List Int} (hs : ¬ badN size key.length) (hK : ∀ y ∈ key, B8 y) (hB : ∀ i, ∀ y ∈ b i, B8 y) {i : Nat} (hi : i < 64) (hn : i < n) :
    RunsP c13 (tM size key.length n (alL b i).length (i : Int)) (sPi key n b (Qa (HsL size key b i) (OsL i) (alL b i))) .normal (tM size key.length n (alL b (i + 1)).length ((i + 1 : Nat) : Int)) (sPi key n b (Qa (HsL size key b (i + 1)) (OsL (i + 1)) (alL b (i + 1)))) := by
  have hs' := hs
  unfold badN at hs'
  have g1 := alL_length b i
  have g2 := alL_length b (i + 1)
  have g3 := pieceL_length b i
  obtain ⟨w1, w2, _⟩ := HsL_facts (size := size) (key := key) (by omega) b i (by omega)
  obtain ⟨v1, v2, _⟩ := HsL_facts (size := size) (key := key) (by omega) b (i + 1) (by omega)
  obtain ⟨o1, o2⟩ := OsL_facts i
  obtain ⟨q, hq⟩ : ∃ q, q = min (b i).length 1000 := ⟨_, rfl⟩
  obtain ⟨z, hz⟩ := Int.eq_ofNat_of_zero_le (show 0 ≤ size by omega)
  have hpl : (pieceL b i).length = q := by unfold pieceL; rw [List.length_take, hq, Nat.min_comm]
  have hd := HsL_sum (size := size) (key := key) (by omega) b (i := i + 1) (by omega)
  have hdl : (digL size key (alL b (i + 1))).length = 32 := digL_length _ _ _
  have hwl := digR_length (b := alL b (i + 1)) hs
  have he := dig_eq (size := size) (key := key) (b := alL b (i + 1)) (by omega) (by omega) hK (alL_B8 hB (i + 1))
  have hzn : size.toNat = z := by omega
  have hal : alL b i ++ pieceL b i = alL b (i + 1) := rfl
  refine stepPi_ok piEs_ok ?_ (stepM key n b size key.length i ((i + 1 : Nat) : Int) (b i).length q (alL b i).length (alL b (i + 1)).length z (HsL size key b i) (HsL size key b (i + 1)) (OsL i) (OsL (i + 1)) (alL b i) (alL b (i + 1)) (pieceL b i) (digR size key (alL b (i + 1))) (digL size key (alL b (i + 1)))) ids70 rfl rfl (fun k v hk => by simp at hk) (Qa_plain _ _ _)
  rw [stepMP]
  refine ⟨lss_eq (by simp; omega), lss_eq (by simp; omega), idx_ok0 hn, cell_out hi hn, idx_ok0 hn, cell_out hi hn, min_1000 hq, cut_upto (by omega), ⟨rfl, ?_⟩, ⟨rfl, ?_⟩, ⟨rfl, ?_⟩, ⟨rfl, ?_⟩, ?_, ⟨rfl, ?_⟩, ⟨rfl, ?_⟩, ⟨rfl, ?_⟩, ⟨rfl, ?_⟩, ?_, add_i64 (by omega) (by omega), trivial⟩
  · have := owe_copy (s := sPi key n b (Qa (HsL size key b i) (OsL i) (alL b i))) (len := 71) (pcV_bys hi hq) (by omega) (sPi_length _ _ _ _)
    rw [hpl, sPi_app] at this
    exact this
  · have := owe_hwrite (st := sPi key n b (Qb (HsL size key b i) (OsL i) (alL b i) (pieceL b i))) (p := 67) (len := 72) (H := HsL size key b i) (by rw [sPi_get (k := 0) rfl]; rfl) (row_bytes (i := 71) (kd := .row 1) (l := pieceL b i) (by rw [sPi_get (k := 4) rfl]; rfl) hpl) (by decide) (by rw [w2]; omega) w1 (by omega)
    rw [sPi_set (k := 0) rfl] at this
    exact this
  · have := owe_hwrite (st := sPi key n b (Qr (HsL size key b (i + 1)) (OsL i) (alL b i) (pieceL b i) (w8 i))) (p := 69) (len := 73) (H := OsL i) (by rw [sPi_get (k := 2) rfl]; rfl) (row_bytes (i := 72) (kd := .row 1) (l := [w8 i]) (n := 1) (by rw [sPi_get (k := 5) rfl]; rfl) rfl) (by decide) (by rw [o2]; decide) o1 (by simp)
    rw [sPi_set (k := 2) rfl] at this
    exact this
  · exact eq_self (b := pieceL b i) (row_bytes (i := 71) (kd := .row 1) (l := pieceL b i) (by rw [sPi_get (k := 4) rfl]; rfl) hpl) (pcV_bys hi hq) (by omega) (sPi_length _ _ _ _)
  · have := loop22 key n b (HsL size key b (i + 1)) (OsL (i + 1)) (alL b i) (pieceL b i) (w8 i) size key.length (alL b i).length (b i).length hi (by omega)
    rw [hpl] at this
    exact this
  · have hsrc := source_bys (pcV_bys (key := key) (n := n) (b := b) (q := Qr (HsL size key b (i + 1)) (OsL (i + 1)) (alL b i) ((pieceL b i).map inc8) (w8 i)) hi hq)
    have happ := append_row (st := sPi key n b (Qr (HsL size key b (i + 1)) (OsL (i + 1)) (alL b i) ((pieceL b i).map inc8) (w8 i))) (i := 70) (c := (alL b i).length) (a := alL b i) (l := pieceL b i) (by rw [sPi_get (k := 3) rfl]; rfl) (by omega)
    rw [hsrc, rowR, happ, sPi_length, sPi_set (k := 3) rfl, sPi_app, hal, ← List.length_append, hal]
    rfl
  · have := owe_rof (st := sPi key n b (Qd (HsL size key b (i + 1)) (OsL (i + 1)) ((pieceL b i).map inc8) (w8 i) (alL b (i + 1)))) (len := 74) (size := size) (Bys.all (i := 1) (l := key) (kd := .ro) rfl) (Bys.row (i := 73) (l := alL b (i + 1)) (kd := .row 1) (by rw [sPi_get (k := 6) rfl]; rfl)) (by omega) hs (sPi_length _ _ _ _)
    rw [hzn, sPi_app] at this
    exact this
  · have := owe_hsum (st := sPi key n b (Qe (HsL size key b (i + 1)) (OsL (i + 1)) ((pieceL b i).map inc8) (w8 i) (alL b (i + 1)) (digR size key (alL b (i + 1))))) (p := 67) (z := z) (len := 75) (H := HsL size key b (i + 1)) (by rw [sPi_get (k := 0) rfl]; rfl) (by rw [v2]; exact hz) (by omega) (by omega) v1 (sPi_length _ _ _ _)
    rw [hd, sPi_app] at this
    exact this
  · rw [hzn] at he hwl
    exact eq_self (b := digR size key (alL b (i + 1))) (dv_bys (by rw [sPi_get (k := 8) rfl]; rfl) (by omega) he) (row_bytes (i := 74) (kd := .row 1) (by rw [sPi_get (k := 7) rfl]; rfl) hwl) (by omega) (sPi_length _ _ _ _)
  · exact loop31 key n b _ _ _ _ _ _ _ size key.length _ i (by omega) (by omega)
theorem ids71' : idsOk (List.range 71) = true := ids71
theorem loopM {size : Int} {key : List Int} {n : Nat} {b : Nat → List Int} (hs : ¬ badN size key.length) (hK : ∀ y ∈ key, B8 y) (hB : ∀ i, ∀ y ∈ b i, B8 y) {k : Nat} (hk : k = min n 64) :
    RunsP (.loop c13) (tM size key.length n 0 0) (sPi key n b (Qa (newH size key) (newH 32 []) [])) (.exit 2) (tMe size key.length n (alL b k).length) (sPi key n b (Qa (HsL size key b k) (OsL k) (alL b k))) := by
  refine Runs.count k (fun i => tM size key.length n (alL b i).length (i : Int)) (fun i => sPi key n b (Qa (HsL size key b i) (OsL i) (alL b i))) (fun i hi => roundM hs hK hB (by omega) (by omega)) ?_ (by simp)
  by_cases hn : n ≤ 64
  · refine stepPi_ok piEs_ok ?_ (stopM key n b size key.length _ _ _ _ _ false) ids71 rfl rfl (fun k v hk => by simp at hk) (Qa_plain _ _ _)
    rw [stopMP0]
    exact ⟨lss_eq (by simp; omega), trivial⟩
  · refine stepPi_ok piEs_ok ?_ (stopM key n b size key.length _ _ _ _ _ true) ids71 rfl rfl (fun k v hk => by simp at hk) (Qa_plain _ _ _)
    rw [stopMP1]
    exact ⟨lss_eq (by simp; omega), lss_eq (by simp; omega), trivial⟩
end Go.Proofs.Ytggkdjhgknghcaa.Bl
