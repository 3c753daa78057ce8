/- Hmac and Extract, of kdf and of the document: what they come to. Without conditions. -/
import Derived.Test.YtmpcmefokjlknaaKdA
namespace Go.Proofs.Ytmpcmefokjlknaa.Kd
open Am Run IntWalk Bl Byt

abbrev WD := Int → Int → Int → Int → Int
def keyF (w : WD) (key : List Int) : List Int := if key.length > 64 then out8 (dgv w key) else key
/-- A tag's numbers. -/
def hmacV (w : WD) (key b : List Int) : V8 := dgv w (padL 92 (keyF w key) (out8 (dgv w (padL 54 (keyF w key) b))))
def ag (g : V8) : Value := .agg ⟨(out8 g).map (.int .u8)⟩
theorem plain_ag (g : V8) : plain (ag g) = true := plain_u8 _
def sH (key b : List Int) : St := [byR key .ro, byR b .ro]
theorem plH (key b : List Int) : (sH key b).all plainReg = true := by simp only [sH, List.all_cons, List.all_nil, byR, plain_u8, plainReg, Bool.and_true, Bool.and_self]

/-! kdf.Hmac -/
def aH (p q : Nat) : List Value := [slR 0 p, slR 1 q]
noncomputable def eA (key b : List Int) (g1 g2 : V8) : Entry := instE 27 [(paA1 key b 54, stA1 key b, ag g1, stA1 key b), (paA2 key b g1 92, stA2 key b g1, ag g2, stA2 key b g1)]
noncomputable def eB (key b : List Int) (d g1 g2 : V8) : Entry := instE 27 [(paB1 key b d 54, stB1 key b d, ag g1, stB1 key b d), (paB2 key b d g1 92, stB2 key b d g1, ag g2, stB2 key b d g1)]
def hHa (g1 g2 : V8) : Hint := ⟨fun r i => match r, i with
  | 1, 2 => some (.pure (.bool false))
  | 5, 2 => some (.eff (ag g1) (fun s => s) [0, 1, 2, 3])
  | 6, 2 => some (.eff (ag g2) (fun s => s) [0, 1, 2, 3, 4])
  | _, _ => none, fun _ => none⟩
def hHb (d g1 g2 : V8) : Hint := ⟨fun r i => match r, i with
  | 1, 2 => some (.pure (.bool true))
  | 2, 1 => some (.read (ag d) [0])
  | 5, 2 => some (.eff (ag g1) (fun s => s) [0, 1, 2, 3, 4])
  | 6, 2 => some (.eff (ag g2) (fun s => s) [0, 1, 2, 3, 4, 5])
  | _, _ => none, fun _ => none⟩
theorem hmAR (key b : List Int) (g1 g2 : V8) : goNH [bsumE, eA key b g1 g2] (hHa g1 g2) 0 Try.f12 (aH key.length b.length) (sH key b) = some (ag g2, sH key b) := by kernel_rfl
theorem hmAP (key b : List Int) (g1 g2 : V8) : owes [bsumE, eA key b g1 g2] (hHa g1 g2) 0 Try.f12 (aH key.length b.length) (sH key b) =
    (aint .gtr .i64 (key.length : Int) 64 = some (.bool false) ∧
     ((none : Option Value) = none ∧ effI (instC (eA key b g1 g2) (paA1 key b 54) (stA1 key b)) none 4 = some (ag g1, stA1 key b, .eff [0, 1, 2, 3] 4)) ∧
     ((none : Option Value) = none ∧ effI (instC (eA key b g1 g2) (paA2 key b g1 92) (stA2 key b g1)) none 5 = some (ag g2, stA2 key b g1, .eff [0, 1, 2, 3, 4] 5)) ∧ True) := by kernel_rfl
theorem hmBR (key b : List Int) (d g1 g2 : V8) : goNH [bsumE, eB key b d g1 g2] (hHb d g1 g2) 0 Try.f12 (aH key.length b.length) (sH key b) = some (ag g2, sH key b) := by kernel_rfl
theorem hmBP (key b : List Int) (d g1 g2 : V8) : owes [bsumE, eB key b d g1 g2] (hHb d g1 g2) 0 Try.f12 (aH key.length b.length) (sH key b) =
    (aint .gtr .i64 (key.length : Int) 64 = some (.bool true) ∧
     ((none : Option Value) = none ∧ effI (callE bsumE.ks bsumE.spec [slR 0 key.length] (stA1 key b)) (greads bsumE.ks [slR 0 key.length]) 4 = some (ag d, stA1 key b, .load [0])) ∧
     ((none : Option Value) = none ∧ effI (instC (eB key b d g1 g2) (paB1 key b d 54) (stB1 key b d)) none 5 = some (ag g1, stB1 key b d, .eff [0, 1, 2, 3, 4] 5)) ∧
     ((none : Option Value) = none ∧ effI (instC (eB key b d g1 g2) (paB2 key b d g1 92) (stB2 key b d g1)) none 6 = some (ag g2, stB2 key b d g1, .eff [0, 1, 2, 3, 4, 5] 6)) ∧ True) := by kernel_rfl
theorem inst1 {f : FuncId} {a : List Value} {s : St} {v : Value} {r : List (List Value × St × Value × St)} {len : Nat} {ft : List Nat} (hl : List.range s.length = ft) : effI (instC (instE f ((a, s, v, s) :: r)) a s) none len = some (v, s, .eff ft len) := by
  simp [instC, instE, effI, hl]
theorem inst2 {f : FuncId} {a a' : List Value} {s s' : St} {v v' : Value} {r : List (List Value × St × Value × St)} {len : Nat} {ft : List Nat} (hl : List.range s.length = ft) (hne : s'.length ≠ s.length) : effI (instC (instE f ((a', s', v', s') :: (a, s, v, s) :: r)) a s) none len = some (v, s, .eff ft len) := by
  have : ¬ (a' = a ∧ s' = s) := fun h => hne (by rw [h.2])
  simp [instC, instE, effI, hl, this]
theorem hmac_ac {key b : List Int} (hk : key.length ≤ 140737488355264) (hb : b.length ≤ 140737488355264) : AC Try.prog 12 (aH key.length b.length) (sH key b) (ag (hmacV wordO key b)) (sH key b) := by
  by_cases h : key.length > 64
  · have e : keyF wordO key = out8 (dgv wordO key) := by unfold keyF; rw [if_pos h]
    unfold hmacV
    rw [e]
    have hI : EntryOk Try.prog (eB key b (dgv wordO key) (dgv wordO (padL 54 (out8 (dgv wordO key)) b)) (dgv wordO (padL 92 (out8 (dgv wordO key)) (out8 (dgv wordO (padL 54 (out8 (dgv wordO key)) b)))))) :=
      instE_ok Try.func27 (by kernel_rfl) (by kernel_rfl) fun x hx => by
        rcases List.mem_cons.1 hx with rfl | hx
        · exact padB1 key b (dgv wordO key) 54 hb
        · rcases List.mem_cons.1 hx with rfl | hx
          · exact padB2 key b (dgv wordO key) (dgv wordO (padL 54 (out8 (dgv wordO key)) b)) 92
          · cases hx
    refine runNH_ok (esc bsumE_ok (es1 hI)) Try.func12 (by kernel_rfl) ?_ (hmBR key b _ _ _) rfl (plH key b) (plain_ag _)
    rw [hmBP]
    exact ⟨gtr_eq (by simp; omega), ⟨rfl, owe_dg (Bys.all rfl) (by omega) rfl⟩, ⟨rfl, inst1 rfl⟩, ⟨rfl, inst2 rfl (by simp [stB1, stB2])⟩, trivial⟩
  · have e : keyF wordO key = key := by unfold keyF; rw [if_neg h]
    unfold hmacV
    rw [e]
    have hI : EntryOk Try.prog (eA key b (dgv wordO (padL 54 key b)) (dgv wordO (padL 92 key (out8 (dgv wordO (padL 54 key b)))))) :=
      instE_ok Try.func27 (by kernel_rfl) (by kernel_rfl) fun x hx => by
        rcases List.mem_cons.1 hx with rfl | hx
        · exact padA1 key b 54 (by omega) hb
        · rcases List.mem_cons.1 hx with rfl | hx
          · exact padA2 key b (dgv wordO (padL 54 key b)) 92 (by omega)
          · cases hx
    refine runNH_ok (esc bsumE_ok (es1 hI)) Try.func12 (by kernel_rfl) ?_ (hmAR key b _ _) rfl (plH key b) (plain_ag _)
    rw [hmAP]
    exact ⟨gtr_eq (by simp; omega), ⟨rfl, inst1 rfl⟩, ⟨rfl, inst2 rfl (by simp [stA1, stA2])⟩, trivial⟩
/-- What a function of two lists of bytes tells that makes 32 bytes of them. -/
def h2Spec (F : List Int → List Int → V8) (args : List Value) (st : St) : Option (Value × St) :=
  match args, st with
  | [.slice (some ⟨0, 0, none⟩) m d, .slice (some ⟨1, 0, none⟩) m' d'], [some ⟨xs, .ro⟩, some ⟨ys, .ro⟩] => match u8s xs, u8s ys with
    | some key, some b => if m = key.length ∧ d = key.length ∧ m' = b.length ∧ d' = b.length ∧ key.length ≤ 140737488355264 ∧ b.length ≤ 140737488355264 then some (ag (F key b), sH key b) else none
    | _, _ => none
  | _, _ => none
theorem h2_ok {F : List Int → List Int → V8} {f : FuncId} {fn : Func} (hf : Try.prog.funcs[f]? = some fn) (hn : (fn.name == "runtime.NumGoroutine") = false) (hb : fn.body.isNone = false)
    (h : ∀ key b : List Int, key.length ≤ 140737488355264 → b.length ≤ 140737488355264 → AC Try.prog f (aH key.length b.length) (sH key b) (ag (F key b)) (sH key b)) : EntryOk Try.prog ⟨f, [.sl false, .sl false], h2Spec F⟩ := by
  refine ⟨fun a s r s' hh => ?_, body_of hf hn hb⟩
  simp only at hh
  unfold h2Spec at hh
  split at hh
  · split at hh
    · rename_i key b hk hb
      split at hh
      · rename_i hc
        obtain ⟨rfl, rfl, rfl, rfl, h5, h6⟩ := hc
        cases hh
        rw [u8s_spec hk, u8s_spec hb]
        exact h key b h5 h6
      · cases hh
    · cases hh
  · cases hh
theorem owe_h2 {F : List Int → List Int → V8} {st : St} {x y : Value} {i o j p len : Nat} {key b : List Int} (hx : Bys st x i o key) (hy : Bys st y j p b) (hk : key.length ≤ 140737488355264) (hb : b.length ≤ 140737488355264) (hl : st.length = len) :
    effI (callE [.sl false, .sl false] (h2Spec F) [x, y] st) (greads [.sl false, .sl false] [x, y]) len = some (ag (F key b), st, .load [i, j]) := by
  have hbr : bares [.sl false, .sl false] [x, y] = false := by simp only [bares, hx.bare, hy.bare, Bool.or_false]
  have hpk : picks 0 [.sl false, .sl false] 0 [x, y] = some (aH key.length b.length, [some ⟨i, o, key.length, false⟩, some ⟨j, p, b.length, false⟩]) := by simp only [picks, hx.pick, hy.pick]; rfl
  refine owe_see hbr hpk rfl (gcall_see (sst := sH key b) hbr hpk (hx.small (hy.small smalls_nil)) (by simp [disjFps, disj1]) ?_ (by simp) (plain_ag _)) hl
  simp only [h2Spec, aH, slR, sH, byR, u8s_map]
  rw [if_pos ⟨trivial, trivial, trivial, trivial, hk, hb⟩]
noncomputable def hmacE : Entry := ⟨12, [.sl false, .sl false], h2Spec (hmacV wordO)⟩
theorem hmacE_ok : EntryOk Try.prog hmacE := h2_ok Try.func12 (by kernel_rfl) (by kernel_rfl) fun _ _ hk hb => hmac_ac hk hb
/-! kdf.Extract -/
def hEx (g : V8) : Hint := ⟨fun r i => match r, i with
  | 1, 2 => some (.read (ag g) [0, 1])
  | _, _ => none, fun _ => none⟩
theorem exR (key b : List Int) (p q : Nat) (g : V8) : goNH [hmacE] (hEx g) 0 Try.f16 (aH p q) (sH key b) = some (ag g, sH key b) := by kernel_rfl
theorem exP (key b : List Int) (p q : Nat) (g : V8) : owes [hmacE] (hEx g) 0 Try.f16 (aH p q) (sH key b) =
    (((none : Option Value) = none ∧ effI (callE [.sl false, .sl false] (h2Spec (hmacV wordO)) (aH p q) (sH key b ++ [zR])) (greads [.sl false, .sl false] (aH p q)) 3 = some (ag g, sH key b ++ [zR], .load [0, 1])) ∧ True) := by kernel_rfl
noncomputable def extractE : Entry := ⟨16, [.sl false, .sl false], h2Spec (hmacV wordO)⟩
theorem extractE_ok : EntryOk Try.prog extractE := h2_ok Try.func16 (by kernel_rfl) (by kernel_rfl) fun key b hk hb => by
  refine runNH_ok (es1 hmacE_ok) Try.func16 (by kernel_rfl) ?_ (exR key b _ _ _) rfl (plH key b) (plain_ag _)
  rw [exP]
  exact ⟨⟨rfl, owe_h2 (Bys.all rfl) (Bys.all rfl) hk hb rfl⟩, trivial⟩

/-! the document's Sum -/
theorem digR_dgv (b : List Int) : digR 32 [] b = out8 (dgv wordA b) := by
  show (out8 (dgv wordA b)).take 32 = out8 (dgv wordA b)
  exact List.take_of_length_le (by rw [out8_length]; decide)
theorem owe_rofNil {st : St} {y : Value} {j p len : Nat} {b : List Int} (hy : Bys st y j p b) (hb : b.length ≤ 140737488355264) (hl : st.length = len) :
    effI (callE rofE.ks rofE.spec [.int .i64 32, .slice none 0 0, y] st) (greads rofE.ks [.int .i64 32, .slice none 0 0, y]) len =
      some (.tuple #[rowR (len + 1) 32, .int .i64 0], st ++ [some ⟨[], .rw⟩] ++ [byR (out8 (dgv wordA b)) (.row 1)], .eff [] len) := by
  subst hl
  obtain ⟨a, c, cs, kd, rfl, hbs, hc, hst, hn, hcut⟩ := hy.ex
  have hbr : bares rofE.ks [.int .i64 32, .slice none 0 0, .slice a b.length c] = true := rfl
  have hy' : Bys (st ++ [some ⟨[], .rw⟩]) (.slice a b.length c) j p b := ⟨a, c, cs, kd, rfl, hbs, hc, by rw [List.getElem?_append_left (List.getElem?_eq_some_iff.1 hst).1]; exact hst, hn, hcut⟩
  have hx' : Bys (st ++ [some ⟨[], .rw⟩]) (slR st.length 0) st.length 0 [] := Bys.all (l := []) (kd := .rw) (by simp [byR])
  have hpk : picks st.length rofE.ks 0 [.int .i64 32, .slice none 0 0, .slice a b.length c] = some (argsO 32 0 b.length, [none, some ⟨st.length, 0, 0, false⟩, some ⟨j, p, b.length, false⟩]) := by simp only [rofE, picks, hy.pick]; rfl
  refine owe_bare hbr hpk rfl ?_
  rw [gcall_bare hbr]
  have := gcall0_look (e := st.length) (ks := rofE.ks) (spec := rofE.spec) (st := st ++ [some ⟨[], .rw⟩]) (sst := sO [] b) (news := [byR (digR 32 [] b) (.row 1)]) (news' := [byR (digR 32 [] b) (.row 1)]) (res := .tuple #[rowR 3 32, .int .i64 0]) (res' := .tuple #[rowR (st.length + 1) 32, .int .i64 0])
    hpk (smalls_none (hx'.small (hy'.small smalls_nil))) (by simp [disjFps, disj1]) (by
      simp only [rofE]
      rw [show argsO 32 0 b.length = argsO 32 ([] : List Int).length b.length from rfl, rofSpec_cells hb, if_neg (show ¬ badN 32 ([] : List Int).length by decide)]
      rfl) (by simp) (mapO_plainReg (by simp only [List.all_cons, List.all_nil, byR, plainReg, plain_u8, Bool.and_true])) (by
      rw [show (st ++ [some (⟨[], .rw⟩ : Reg)]).length = st.length + 1 by simp]
      rfl)
  rw [digR_dgv] at this
  exact this
def hRs (g : V8) : Hint := ⟨fun r i => match r, i with
  | 2, 1 => some (.eff (.tuple #[rowR 4 32, .int .i64 0]) (fun s => s ++ [some ⟨[], .rw⟩] ++ [byR (out8 g) (.row 1)]) [])
  | _, _ => none, fun _ => none⟩
theorem rsumR (b : List Int) (n : Nat) (g : V8) : goNH [rofE] (hRs g) 33 Try.f28 [slR 0 n] [byR b .ro] = some (ag g, [byR b .ro]) := by kernel_rfl
theorem rsumP (b : List Int) (n : Nat) (g : V8) : owes [rofE] (hRs g) 33 Try.f28 [slR 0 n] [byR b .ro] =
    (((none : Option Value) = none ∧ effI (callE rofE.ks rofE.spec [.int .i64 32, .slice none 0 0, slR 0 n] [byR b .ro, zR, zR]) (greads rofE.ks [.int .i64 32, .slice none 0 0, slR 0 n]) 3 = some (.tuple #[rowR 4 32, .int .i64 0], [byR b .ro, zR, zR] ++ [some ⟨[], .rw⟩] ++ [byR (out8 g) (.row 1)], .eff [] 3)) ∧ True) := by kernel_rfl
theorem rsum_ac {b : List Int} (hb : b.length ≤ 140737488355264) : AC Try.prog 28 [slR 0 b.length] [byR b .ro] (ag (dgv wordA b)) [byR b .ro] := by
  refine runNH_ok (es1 rofE_ok) Try.func28 (by kernel_rfl) ?_ (rsumR b _ _) rfl ?_ (plain_ag _)
  · rw [rsumP]
    exact ⟨⟨rfl, owe_rofNil (Bys.all rfl) hb rfl⟩, trivial⟩
  · simp only [List.all_cons, List.all_nil, byR, plain_u8, plainReg, Bool.and_true]
def rsumSpec (args : List Value) (st : St) : Option (Value × St) :=
  match args, st with
  | [.slice (some ⟨0, 0, none⟩) n d], [some ⟨xs, .ro⟩] => match u8s xs with
    | some b => if n = b.length ∧ d = b.length ∧ b.length ≤ 140737488355264 then some (ag (dgv wordA b), [byR b .ro]) else none
    | none => none
  | _, _ => none
noncomputable def rsumE : Entry := ⟨28, [.sl false], rsumSpec⟩
theorem rsumE_ok : EntryOk Try.prog rsumE := by
  refine ⟨fun a s r s' h => ?_, body_of Try.func28 (by kernel_rfl) (by kernel_rfl)⟩
  simp only [rsumE] at h
  unfold rsumSpec at h
  split at h
  · split at h
    · rename_i b hb
      split at h
      · rename_i hc
        obtain ⟨rfl, rfl, h5⟩ := hc
        cases h
        rw [u8s_spec hb]
        exact rsum_ac h5
      · cases h
    · cases h
  · cases h
theorem owe_rsum {st : St} {x : Value} {i o len : Nat} {b : List Int} (hx : Bys st x i o b) (hb : b.length ≤ 140737488355264) (hl : st.length = len) :
    effI (callE rsumE.ks rsumE.spec [x] st) (greads rsumE.ks [x]) len = some (ag (dgv wordA b), st, .load [i]) := by
  have hbr : bares rsumE.ks [x] = false := by simp only [rsumE, bares, hx.bare, Bool.or_false]
  have hpk : picks 0 rsumE.ks 0 [x] = some ([slR 0 b.length], [some ⟨i, o, b.length, false⟩]) := by simp only [rsumE, picks, hx.pick]
  refine owe_see hbr hpk rfl (gcall_see (sst := [byR b .ro]) hbr hpk (hx.small smalls_nil) (by simp [disjFps]) ?_ (by simp) (plain_ag _)) hl
  simp only [rsumE, rsumSpec, slR, byR, u8s_map]
  rw [if_pos ⟨trivial, trivial, hb⟩]

/-! the document's pad -/
def hPs (p q : Nat) (key x : List Int) : Hint := ⟨fun r i => match r, i with
  | 2, 2 => some (.pure (.bool false))
  | 5, 2 => some (.eff (.int .i64 (p : Int)) (fun s => s.set 3 (byR (blk64 key 0) (.row 1))) [3])
  | 10, 2 => some (.eff (rowR 4 (64 + q)) (fun s => s.set 3 none ++ [byR x (.row 1)]) [3])
  | _, _ => none, fun _ => none⟩
def hPl (q : Nat) (d : V8) (x : List Int) : Hint := ⟨fun r i => match r, i with
  | 2, 2 => some (.pure (.bool true))
  | 3, 1 => some (.read (ag d) [0])
  | 10, 2 => some (.eff (rowR 5 (64 + q)) (fun s => s.set 3 none ++ [byR x (.row 1)]) [3])
  | _, _ => none, fun _ => none⟩
def aP (y : Int) (p q : Nat) : List Value := [slR 0 p, .int .u8 y, slR 2 q]
def sPd (key b : List Int) : St := [byR key .ro, none, byR b .ro]
theorem rpsR (key b x : List Int) (y : Int) (p q : Nat) : goFH [rsumE] (hPs p q key x) 65 Try.f29 (aP y p q) (sPd key b) = some (rowR 4 (64 + q), sPd key b ++ [none] ++ [byR x (.row 1)]) := by kernel_rfl
theorem rpsP (key b x : List Int) (y : Int) (p q : Nat) : owes [rsumE] (hPs p q key x) 65 Try.f29 (aP y p q) (sPd key b) =
    (aint .gtr .i64 (p : Int) 64 = some (.bool false) ∧
     ((none : Option Value) = none ∧ effI (copyCore (sPd key b ++ [byR (List.replicate 64 0) (.row 1)]) 3 0 64 0 0 p) none 4 = some (.int .i64 (p : Int), sPd key b ++ [byR (blk64 key 0) (.row 1)], .eff [3] 4)) ∧
     ((none : Option Value) = none ∧ effI (appendCore (sPd key b ++ [byR (padB y key) (.row 1)]) 1 1 (.int .u8 0) (rowR 3 64) (source (sPd key b ++ [byR (padB y key) (.row 1)]) 1 (slR 2 q))) none 4 = some (rowR 4 (64 + q), sPd key b ++ [none] ++ [byR x (.row 1)], .eff [3] 4)) ∧ True) := by kernel_rfl
theorem rplR (key b x : List Int) (y : Int) (p q : Nat) (d : V8) : goFH [rsumE] (hPl q d x) 65 Try.f29 (aP y p q) (sPd key b) = some (rowR 5 (64 + q), sPd key b ++ [none] ++ [some ⟨(out8 d).map (.int .u8), .rw⟩] ++ [byR x (.row 1)]) := by kernel_rfl
theorem rplP (key b x : List Int) (y : Int) (p q : Nat) (d : V8) : owes [rsumE] (hPl q d x) 65 Try.f29 (aP y p q) (sPd key b) =
    (aint .gtr .i64 (p : Int) 64 = some (.bool true) ∧
     ((none : Option Value) = none ∧ effI (callE rsumE.ks rsumE.spec [slR 0 p] (sPd key b ++ [byR (List.replicate 64 0) (.row 1)])) (greads rsumE.ks [slR 0 p]) 4 = some (ag d, sPd key b ++ [byR (List.replicate 64 0) (.row 1)], .load [0])) ∧
     ((none : Option Value) = none ∧ effI (appendCore (sPd key b ++ [byR (padB y (out8 d)) (.row 1)] ++ [some ⟨(out8 d).map (.int .u8), .rw⟩]) 1 1 (.int .u8 0) (rowR 3 64) (source (sPd key b ++ [byR (padB y (out8 d)) (.row 1)] ++ [some ⟨(out8 d).map (.int .u8), .rw⟩]) 1 (slR 2 q))) none 5 =
       some (rowR 5 (64 + q), sPd key b ++ [none] ++ [some ⟨(out8 d).map (.int .u8), .rw⟩] ++ [byR x (.row 1)], .eff [3] 5)) ∧ True) := by kernel_rfl
theorem rpad_ac {key b : List Int} {y : Int} (hk : key.length ≤ 140737488355264) (hb : b.length ≤ 140737488355264) : AC Try.prog 29 (aP y key.length b.length) (sPd key b) (rowR 3 (64 + b.length)) (sPd key b ++ [byR (padL y (keyF wordA key) b) (.row 1)]) := by
  by_cases h : key.length > 64
  · have e : keyF wordA key = out8 (dgv wordA key) := by unfold keyF; rw [if_pos h]
    rw [e]
    have hO := runH_ok (es1 rsumE_ok) Try.func29 (by kernel_rfl) (n := 65) (a := aP y key.length b.length) (s := sPd key b) (by
      rw [rplP]
      refine ⟨gtr_eq (by simp; omega), ⟨rfl, owe_rsum (Bys.all rfl) hk rfl⟩, ⟨rfl, ?_⟩, trivial⟩
      have hs := source_bys (st := sPd key b ++ [byR (padB y (out8 (dgv wordA key))) (.row 1)] ++ [some ⟨(out8 (dgv wordA key)).map (.int .u8), .rw⟩]) (Bys.all (i := 2) (l := b) rfl)
      have ha := append_cap (st := sPd key b ++ [byR (padB y (out8 (dgv wordA key))) (.row 1)] ++ [some ⟨(out8 (dgv wordA key)).map (.int .u8), .rw⟩]) (i := 3) (c := 64) (a := padB y (out8 (dgv wordA key))) (l := b) rfl (padB_length _ _) (by omega)
      rw [hs, rowR, ha]
      rfl) (rplR key b (padL y (out8 (dgv wordA key)) b) y _ _ (dgv wordA key))
    refine view_plain hO [0, 1, 2, 5] rfl rfl rfl ?_ rfl
    simp only [sPd, List.cons_append, List.nil_append, List.all_cons, List.all_nil, byR, plain_u8, plainReg, Bool.and_true, Bool.and_self]
  · have e : keyF wordA key = key := by unfold keyF; rw [if_neg h]
    rw [e]
    have hO := runH_ok (es1 rsumE_ok) Try.func29 (by kernel_rfl) (n := 65) (a := aP y key.length b.length) (s := sPd key b) (by
      rw [rpsP]
      refine ⟨gtr_eq (by simp; omega), ⟨rfl, ?_⟩, ⟨rfl, ?_⟩, trivial⟩
      · rw [copy_block (x := key) (l := key) (kd := .ro) rfl rfl (by omega) (by omega) (by simp)]; rfl
      · have hs := source_bys (st := sPd key b ++ [byR (padB y key) (.row 1)]) (Bys.all (i := 2) (l := b) rfl)
        have ha := append_cap (st := sPd key b ++ [byR (padB y key) (.row 1)]) (i := 3) (c := 64) (a := padB y key) (l := b) rfl (padB_length _ _) (by omega)
        rw [hs, rowR, ha]
        rfl) (rpsR key b (padL y key b) y _ _)
    refine view_plain hO [0, 1, 2, 4] rfl rfl rfl ?_ rfl
    simp only [sPd, List.cons_append, List.nil_append, List.all_cons, List.all_nil, byR, plain_u8, plainReg, Bool.and_true, Bool.and_self]
def rpadSpec (args : List Value) (st : St) : Option (Value × St) :=
  match args, st with
  | [.slice (some ⟨0, 0, none⟩) m d, .int .u8 y, .slice (some ⟨2, 0, none⟩) m' d'], [some ⟨xs, .ro⟩, none, some ⟨ys, .ro⟩] => match u8s xs, u8s ys with
    | some key, some b => if m = key.length ∧ d = key.length ∧ m' = b.length ∧ d' = b.length ∧ key.length ≤ 140737488355264 ∧ b.length ≤ 140737488355264 then some (rowR 3 (64 + b.length), sPd key b ++ [byR (padL y (keyF wordA key) b) (.row 1)]) else none
    | _, _ => none
  | _, _ => none
noncomputable def rpadE : Entry := ⟨29, [.sl false, .val, .sl false], rpadSpec⟩
theorem rpadE_ok : EntryOk Try.prog rpadE := by
  refine ⟨fun a s r s' h => ?_, body_of Try.func29 (by kernel_rfl) (by kernel_rfl)⟩
  simp only [rpadE] at h
  unfold rpadSpec at h
  split at h
  · split at h
    · rename_i key b hk hb
      split at h
      · rename_i hc
        obtain ⟨rfl, rfl, rfl, rfl, h5, h6⟩ := hc
        cases h
        rw [u8s_spec hk, u8s_spec hb]
        exact rpad_ac h5 h6
      · cases h
    · cases h
  · cases h
theorem owe_rpad {st : St} {x z : Value} {i o j p len : Nat} {y : Int} {key b : List Int} (hx : Bys st x i o key) (hz : Bys st z j p b) (hk : key.length ≤ 140737488355264) (hb : b.length ≤ 140737488355264) (hl : st.length = len) :
    effI (callE rpadE.ks rpadE.spec [x, .int .u8 y, z] st) (greads rpadE.ks [x, .int .u8 y, z]) len = some (rowR len (64 + b.length), st ++ [byR (padL y (keyF wordA key) b) (.row 1)], .eff [] len) := by
  subst hl
  have hbr : bares rpadE.ks [x, .int .u8 y, z] = false := by simp only [rpadE, bares, hx.bare, hz.bare, Bool.or_false, Bool.false_or]; rfl
  have hpk : picks 0 rpadE.ks 0 [x, .int .u8 y, z] = some (aP y key.length b.length, [some ⟨i, o, key.length, false⟩, none, some ⟨j, p, b.length, false⟩]) := by simp only [rpadE, picks, hx.pick, hz.pick]; rfl
  refine owe_look hbr hpk rfl (gcall_look (sst := sPd key b) (news := [byR (padL y (keyF wordA key) b) (.row 1)]) (res := rowR 3 (64 + b.length)) hbr hpk (hx.small (smalls_none (hz.small smalls_nil))) (by simp [disjFps, disj1]) ?_ (by simp) (mapO_plainReg ?_) rfl) (by simp)
  · simp only [rpadE, rpadSpec, aP, slR, sPd, byR, u8s_map]
    rw [if_pos ⟨trivial, trivial, trivial, trivial, hk, hb⟩]
  · simp only [List.all_cons, List.all_nil, byR, plainReg, plain_u8, Bool.and_true]

/-! the document's Hmac, Extract -/
def hRh (q : Nat) (g1 g2 : V8) (x1 x2 : List Int) : Hint := ⟨fun r i => match r, i with
  | 1, 2 => some (.eff (rowR 3 (64 + q)) (fun s => s ++ [byR x1 (.row 1)]) [])
  | 1, 3 => some (.read (ag g1) [3])
  | 2, 2 => some (.eff (rowR 5 (64 + 32)) (fun s => s ++ [byR x2 (.row 1)]) [])
  | 2, 3 => some (.read (ag g2) [5])
  | _, _ => none, fun _ => none⟩
def s3h (key b x1 : List Int) : St := sH key b ++ [zR] ++ [byR x1 (.row 1)]
def s5h (key b x1 x2 : List Int) (g : V8) : St := s3h key b x1 ++ [byR (out8 g) .rw] ++ [byR x2 (.row 1)]
theorem rhR (key b x1 x2 : List Int) (p q : Nat) (g1 g2 : V8) : goNH [rpadE, rsumE] (hRh q g1 g2 x1 x2) 0 Try.f13 (aH p q) (sH key b) = some (ag g2, sH key b) := by kernel_rfl
theorem rhP (key b x1 x2 : List Int) (p q : Nat) (g1 g2 : V8) : owes [rpadE, rsumE] (hRh q g1 g2 x1 x2) 0 Try.f13 (aH p q) (sH key b) =
    (((none : Option Value) = none ∧ effI (callE rpadE.ks rpadE.spec [slR 0 p, .int .u8 54, slR 1 q] (sH key b ++ [zR])) (greads rpadE.ks [slR 0 p, .int .u8 54, slR 1 q]) 3 = some (rowR 3 (64 + q), s3h key b x1, .eff [] 3)) ∧
     ((none : Option Value) = none ∧ effI (callE rsumE.ks rsumE.spec [rowR 3 (64 + q)] (s3h key b x1)) (greads rsumE.ks [rowR 3 (64 + q)]) 4 = some (ag g1, s3h key b x1, .load [3])) ∧
     ((none : Option Value) = none ∧ effI (callE rpadE.ks rpadE.spec [slR 0 p, .int .u8 92, slR 4 32] (s3h key b x1 ++ [byR (out8 g1) .rw])) (greads rpadE.ks [slR 0 p, .int .u8 92, slR 4 32]) 5 = some (rowR 5 (64 + 32), s5h key b x1 x2 g1, .eff [] 5)) ∧
     ((none : Option Value) = none ∧ effI (callE rsumE.ks rsumE.spec [rowR 5 (64 + 32)] (s5h key b x1 x2 g1)) (greads rsumE.ks [rowR 5 (64 + 32)]) 6 = some (ag g2, s5h key b x1 x2 g1, .load [5])) ∧ True) := by kernel_rfl
theorem rhmac_ac {key b : List Int} (hk : key.length ≤ 140737488355264) (hb : 64 + b.length ≤ 140737488355264) : AC Try.prog 13 (aH key.length b.length) (sH key b) (ag (hmacV wordA key b)) (sH key b) := by
  refine runNH_ok (esc rpadE_ok (es1 rsumE_ok)) Try.func13 (by kernel_rfl) ?_ (rhR key b (padL 54 (keyF wordA key) b) (padL 92 (keyF wordA key) (out8 (dgv wordA (padL 54 (keyF wordA key) b)))) _ _ (dgv wordA (padL 54 (keyF wordA key) b)) (hmacV wordA key b)) rfl (plH key b) (plain_ag _)
  rw [rhP]
  refine ⟨⟨rfl, owe_rpad (Bys.all rfl) (Bys.all rfl) hk (by omega) rfl⟩, ⟨rfl, owe_rsum (row_bytes rfl (padL_length _ _ _)) (by rw [padL_length]; omega) rfl⟩, ⟨rfl, ?_⟩, ⟨rfl, owe_rsum (row_bytes rfl (by rw [padL_length, out8_length])) (by rw [padL_length, out8_length]; omega) rfl⟩, trivial⟩
  exact owe_rpad (b := out8 (dgv wordA (padL 54 (keyF wordA key) b))) (Bys.all rfl) (Bys.all (i := 4) (l := out8 (dgv wordA (padL 54 (keyF wordA key) b))) rfl) hk (by rw [out8_length]; omega) rfl
/-- Tells of lists of at most so many bytes. -/
def h2SpecR (F : List Int → List Int → V8) (args : List Value) (st : St) : Option (Value × St) :=
  match args, st with
  | [.slice (some ⟨0, 0, none⟩) m d, .slice (some ⟨1, 0, none⟩) m' d'], [some ⟨xs, .ro⟩, some ⟨ys, .ro⟩] => match u8s xs, u8s ys with
    | some key, some b => if m = key.length ∧ d = key.length ∧ m' = b.length ∧ d' = b.length ∧ key.length ≤ 140737488355264 ∧ 64 + b.length ≤ 140737488355264 then some (ag (F key b), sH key b) else none
    | _, _ => none
  | _, _ => none
theorem h2R_ok {F : List Int → List Int → V8} {f : FuncId} {fn : Func} (hf : Try.prog.funcs[f]? = some fn) (hn : (fn.name == "runtime.NumGoroutine") = false) (hb : fn.body.isNone = false)
    (h : ∀ key b : List Int, key.length ≤ 140737488355264 → 64 + b.length ≤ 140737488355264 → AC Try.prog f (aH key.length b.length) (sH key b) (ag (F key b)) (sH key b)) : EntryOk Try.prog ⟨f, [.sl false, .sl false], h2SpecR F⟩ := by
  refine ⟨fun a s r s' hh => ?_, body_of hf hn hb⟩
  simp only at hh
  unfold h2SpecR at hh
  split at hh
  · split at hh
    · rename_i key b hk hb
      split at hh
      · rename_i hc
        obtain ⟨rfl, rfl, rfl, rfl, h5, h6⟩ := hc
        cases hh
        rw [u8s_spec hk, u8s_spec hb]
        exact h key b h5 h6
      · cases hh
    · cases hh
  · cases hh
theorem owe_h2R {F : List Int → List Int → V8} {st : St} {x y : Value} {i o j p len : Nat} {key b : List Int} (hx : Bys st x i o key) (hy : Bys st y j p b) (hk : key.length ≤ 140737488355264) (hb : 64 + b.length ≤ 140737488355264) (hl : st.length = len) :
    effI (callE [.sl false, .sl false] (h2SpecR F) [x, y] st) (greads [.sl false, .sl false] [x, y]) len = some (ag (F key b), st, .load [i, j]) := by
  have hbr : bares [.sl false, .sl false] [x, y] = false := by simp only [bares, hx.bare, hy.bare, Bool.or_false]
  have hpk : picks 0 [.sl false, .sl false] 0 [x, y] = some (aH key.length b.length, [some ⟨i, o, key.length, false⟩, some ⟨j, p, b.length, false⟩]) := by simp only [picks, hx.pick, hy.pick]; rfl
  refine owe_see hbr hpk rfl (gcall_see (sst := sH key b) hbr hpk (hx.small (hy.small smalls_nil)) (by simp [disjFps, disj1]) ?_ (by simp) (plain_ag _)) hl
  simp only [h2SpecR, aH, slR, sH, byR, u8s_map]
  rw [if_pos ⟨trivial, trivial, trivial, trivial, hk, hb⟩]
noncomputable def rhmacE : Entry := ⟨13, [.sl false, .sl false], h2SpecR (hmacV wordA)⟩
theorem rhmacE_ok : EntryOk Try.prog rhmacE := h2R_ok Try.func13 (by kernel_rfl) (by kernel_rfl) fun _ _ hk hb => rhmac_ac hk hb
theorem padB_zeros (y : Int) (n : Nat) : padB y (List.replicate n 0) = padB y [] := by
  unfold padB
  apply List.map_congr_left
  intro i _
  congr 1
  rw [List.getD_eq_getElem?_getD, List.getElem?_replicate]; split <;> rfl
theorem hmacV_zeros (w : WD) (b : List Int) : hmacV w (List.replicate 32 0) b = hmacV w [] b := by
  have e1 : keyF w (List.replicate 32 0) = List.replicate 32 0 := by unfold keyF; rw [if_neg (by simp)]
  have e2 : keyF w [] = [] := by unfold keyF; rw [if_neg (by simp)]
  unfold hmacV padL
  rw [e1, e2, padB_zeros, padB_zeros]
def hRe0 (g : V8) : Hint := ⟨fun r i => match r, i with
  | 2, 2 => some (.read (ag g) [3, 1])
  | _, _ => none, fun _ => none⟩
def hRe1 (g : V8) : Hint := ⟨fun r i => match r, i with
  | 1, 2 => some (.pure (.bool false))
  | 3, 2 => some (.read (ag g) [0, 1])
  | _, _ => none, fun _ => none⟩
theorem reR0 (b : List Int) (q : Nat) (g : V8) : goNH [rhmacE] (hRe0 g) 0 Try.f17 (aH 0 q) (sH [] b) = some (ag g, sH [] b) := by kernel_rfl
theorem reP0 (b : List Int) (q : Nat) (g : V8) : owes [rhmacE] (hRe0 g) 0 Try.f17 (aH 0 q) (sH [] b) =
    (((none : Option Value) = none ∧ effI (callE [.sl false, .sl false] (h2SpecR (hmacV wordA)) [rowR 3 32, slR 1 q] (sH [] b ++ [zR] ++ [byR (List.replicate 32 0) (.row 1)])) (greads [.sl false, .sl false] [rowR 3 32, slR 1 q]) 4 = some (ag g, sH [] b ++ [zR] ++ [byR (List.replicate 32 0) (.row 1)], .load [3, 1])) ∧ True) := by kernel_rfl
theorem reR1 (key b : List Int) (p q : Nat) (g : V8) : goNH [rhmacE] (hRe1 g) 0 Try.f17 (aH p q) (sH key b) = some (ag g, sH key b) := by kernel_rfl
theorem reP1 (key b : List Int) (p q : Nat) (g : V8) : owes [rhmacE] (hRe1 g) 0 Try.f17 (aH p q) (sH key b) =
    (aint .eql .i64 (p : Int) 0 = some (.bool false) ∧
     ((none : Option Value) = none ∧ effI (callE [.sl false, .sl false] (h2SpecR (hmacV wordA)) (aH p q) (sH key b ++ [zR])) (greads [.sl false, .sl false] (aH p q)) 3 = some (ag g, sH key b ++ [zR], .load [0, 1])) ∧ True) := by kernel_rfl
noncomputable def rextractE : Entry := ⟨17, [.sl false, .sl false], h2SpecR (hmacV wordA)⟩
theorem rextractE_ok : EntryOk Try.prog rextractE := h2R_ok Try.func17 (by kernel_rfl) (by kernel_rfl) fun key b hk hb => by
  by_cases h : key.length = 0
  · obtain rfl := List.length_eq_zero_iff.1 h
    rw [← hmacV_zeros]
    refine runNH_ok (es1 rhmacE_ok) Try.func17 (by kernel_rfl) ?_ (reR0 b _ _) rfl (plH [] b) (plain_ag _)
    show owes [rhmacE] _ 0 Try.f17 (aH 0 b.length) (sH [] b)
    rw [reP0]
    exact ⟨⟨rfl, owe_h2R (row_bytes rfl (by simp)) (Bys.all rfl) (by simp) hb rfl⟩, trivial⟩
  · refine runNH_ok (es1 rhmacE_ok) Try.func17 (by kernel_rfl) ?_ (reR1 key b _ _ _) rfl (plH key b) (plain_ag _)
    rw [reP1]
    exact ⟨eql_eq (by simpa using h), ⟨rfl, owe_h2R (Bys.all rfl) (Bys.all rfl) hk hb rfl⟩, trivial⟩
end Go.Proofs.Ytmpcmefokjlknaa.Kd
