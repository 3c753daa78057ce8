/- The law KdfKnown: a key's block, KdfInner, calls with slices without places. Without conditions. -/
import Derived.Test.YtmpcmefokjlknaaKdJ
namespace Go.Proofs.Ytmpcmefokjlknaa.Kd
open Am Run IntWalk Bl Byt

/-! block -/
def hBs (p : Nat) (key : List Int) : Hint := ⟨fun r i => match r, i with
  | 2, 2 => some (.pure (.bool false))
  | 5, 2 => some (.eff (.int .i64 (p : Int)) (fun s => s.set 2 (byR (blk64 key 0) (.row 1))) [2])
  | _, _ => none, fun _ => none⟩
def hBl (d : V8) : Hint := ⟨fun r i => match r, i with
  | 2, 2 => some (.pure (.bool true))
  | 3, 1 => some (.read (ag d) [0])
  | _, _ => none, fun _ => none⟩
def aBk (y : Int) (p : Nat) : List Value := [slR 0 p, .int .u8 y]
def sBk (key : List Int) : St := [byR key .ro, none]
theorem bsR (key : List Int) (y : Int) (p : Nat) : goVH [bsumE] (hBs p key) 65 Try.f30 (aBk y p) (sBk key) [0, 1, 2] = some (rowR 2 64, sBk key ++ [byR (padB y key) (.row 1)]) := by kernel_rfl
theorem bsP (key : List Int) (y : Int) (p : Nat) : owes [bsumE] (hBs p key) 65 Try.f30 (aBk y p) (sBk key) =
    (aint .gtr .i64 (p : Int) 64 = some (.bool false) ∧
     ((none : Option Value) = none ∧ effI (copyCore (sBk key ++ [byR (List.replicate 64 0) (.row 1)]) 2 0 64 0 0 p) none 3 = some (.int .i64 (p : Int), sBk key ++ [byR (blk64 key 0) (.row 1)], .eff [2] 3)) ∧ True) := by kernel_rfl
theorem blR (key : List Int) (y : Int) (p : Nat) (d : V8) : goVH [bsumE] (hBl d) 65 Try.f30 (aBk y p) (sBk key) [0, 1, 2] = some (rowR 2 64, sBk key ++ [byR (padB y (out8 d)) (.row 1)]) := by kernel_rfl
theorem blP (key : List Int) (y : Int) (p : Nat) (d : V8) : owes [bsumE] (hBl d) 65 Try.f30 (aBk y p) (sBk key) =
    (aint .gtr .i64 (p : Int) 64 = some (.bool true) ∧
     ((none : Option Value) = none ∧ effI (callE bsumE.ks bsumE.spec [slR 0 p] (sBk key ++ [byR (List.replicate 64 0) (.row 1)])) (greads bsumE.ks [slR 0 p]) 3 = some (ag d, sBk key ++ [byR (List.replicate 64 0) (.row 1)], .load [0])) ∧ True) := by kernel_rfl
theorem plBk (key o : List Int) (k : RK) : (sBk key ++ [byR o k]).all plainReg = true := by
  have h1 : plainReg none = true := rfl
  simp only [sBk, List.cons_append, List.nil_append, List.all_cons, List.all_nil, byR, plainReg_u8, h1, Bool.and_true]
theorem block_ac {key : List Int} {y : Int} (hk : key.length ≤ 140737488351232) : AC Try.prog 30 (aBk y key.length) (sBk key) (rowR 2 64) (sBk key ++ [byR (padB y (keyF wordO key)) (.row 1)]) := by
  by_cases h : key.length > 64
  · have e : keyF wordO key = out8 (dgv wordO key) := by unfold keyF; rw [if_pos h]
    rw [e]
    refine runVH_ok (es1 bsumE_ok) Try.func30 (by kernel_rfl) ?_ (blR key y _ _) rfl rfl (plBk _ _ _) rfl
    rw [blP]
    exact ⟨gtr_eq (by simp; omega), ⟨rfl, owe_dg (Bys.all rfl) (by omega) rfl⟩, trivial⟩
  · have e : keyF wordO key = key := by unfold keyF; rw [if_neg h]
    rw [e]
    refine runVH_ok (es1 bsumE_ok) Try.func30 (by kernel_rfl) ?_ (bsR key y _) rfl rfl (plBk _ _ _) rfl
    rw [bsP]
    refine ⟨gtr_eq (by simp; omega), ⟨rfl, ?_⟩, trivial⟩
    rw [copy_block (x := key) (l := key) (kd := .ro) rfl rfl (by omega) (by omega) (by simp)]; rfl
def blockSpec (args : List Value) (st : St) : Option (Value × St) :=
  match args, st with
  | [.slice (some ⟨0, 0, none⟩) m d, .int .u8 y], [some ⟨xs, .ro⟩, none] => match u8s xs with
    | some key => if m = key.length ∧ d = key.length ∧ key.length ≤ 140737488351232 then some (rowR 2 64, sBk key ++ [byR (padB y (keyF wordO key)) (.row 1)]) else none
    | none => none
  | _, _ => none
noncomputable def blockE : Entry := ⟨30, [.sl false, .val], blockSpec⟩
theorem blockE_ok : EntryOk Try.prog blockE := by
  refine ⟨fun a s r s' h => ?_, body_of Try.func30 (by kernel_rfl) (by kernel_rfl)⟩
  simp only [blockE] at h
  unfold blockSpec at h
  split at h
  · split at h
    · rename_i key hk
      split at h
      · rename_i hc
        obtain ⟨rfl, rfl, h3⟩ := hc
        cases h
        rw [u8s_spec hk]
        exact block_ac h3
      · cases h
    · cases h
  · cases h
theorem owe_block {st : St} {x : Value} {i o len : Nat} {y : Int} {key : List Int} (hx : Bys st x i o key) (hk : key.length ≤ 140737488351232) (hl : st.length = len) :
    effI (callE blockE.ks blockE.spec [x, .int .u8 y] st) (greads blockE.ks [x, .int .u8 y]) len = some (rowR len 64, st ++ [byR (padB y (keyF wordO key)) (.row 1)], .eff [] len) := by
  subst hl
  have hbr : bares blockE.ks [x, .int .u8 y] = false := by simp only [blockE, bares, hx.bare, Bool.or_false, Bool.false_or]; rfl
  have hpk : picks 0 blockE.ks 0 [x, .int .u8 y] = some (aBk y key.length, [some ⟨i, o, key.length, false⟩, none]) := by simp only [blockE, picks, hx.pick]; rfl
  refine owe_look hbr hpk rfl (gcall_look (sst := sBk key) (news := [byR (padB y (keyF wordO key)) (.row 1)]) (res := rowR 2 64) hbr hpk (hx.small (smalls_none smalls_nil)) (by simp [disjFps]) ?_ (by simp) (mapO_plainReg ?_) rfl) (by simp)
  · simp only [blockE, blockSpec, aBk, slR, sBk, byR, u8s_map]
    rw [if_pos ⟨trivial, trivial, hk⟩]
  · simp only [List.all_cons, List.all_nil, byR, plainReg, plain_u8, Bool.and_true]

/-! KdfInner -/
noncomputable def inEs : List Entry := [hmacE, bsumE, blockE, kworksE]
theorem inEs_ok : ∀ e ∈ inEs, EntryOk Try.prog e := esc hmacE_ok (esc bsumE_ok (esc blockE_ok (es1 kworksE_ok)))
def hIn (P1 P2 X1 X2 : List Int) (q : Nat) (d g : V8) : Hint := ⟨fun r i => match r, i with
  | 3, 1 => some (.eff (rowR 2 64) (fun s => s ++ [byR P1 (.row 1)]) [])
  | 3, 3 => some (.eff (rowR 3 (64 + q)) (fun s => s.set 2 none ++ [byR X1 (.row 1)]) [2])
  | 3, 4 => some (.read (ag d) [3])
  | 4, 2 => some (.read (ag g) [0, 1])
  | 4, 4 => some (.eff (rowR 5 64) (fun s => s ++ [byR P2 (.row 1)]) [])
  | 4, 6 => some (.eff (rowR 6 96) (fun s => s.set 5 none ++ [byR X2 (.row 1)]) [5])
  | 4, 7 => some (.read (ag g) [6])
  | 4, 8 => some (.pure (.bool true))
  | _, _ => none, fun _ => none⟩
def sIn2 (key b P1 : List Int) : St := sH key b ++ [byR P1 (.row 1)]
def sIn3 (key b X1 : List Int) : St := sH key b ++ [none, byR X1 (.row 1)]
def sIn4 (key b X1 : List Int) (d : V8) : St := sH key b ++ [none, byR X1 (.row 1), byR (out8 d) .rw]
def sIn5 (key b X1 P2 : List Int) (d : V8) : St := sIn4 key b X1 d ++ [byR P2 (.row 1)]
def sIn6 (key b X1 X2 : List Int) (d : V8) : St := sIn4 key b X1 d ++ [none, byR X2 (.row 1)]
theorem inR (key b P1 P2 X1 X2 : List Int) (p q : Nat) (d g : V8) : goNH inEs (hIn P1 P2 X1 X2 q d g) 0 Try.f21 (aH p q) (sH key b) = some (.bool true, sH key b) := by kernel_rfl
theorem inP (key b P1 P2 X1 X2 : List Int) (p q : Nat) (d g : V8) : owes inEs (hIn P1 P2 X1 X2 q d g) 0 Try.f21 (aH p q) (sH key b) =
    (((none : Option Value) = none ∧ effI (callE blockE.ks blockE.spec [slR 0 p, .int .u8 54] (sH key b)) (greads blockE.ks [slR 0 p, .int .u8 54]) 2 = some (rowR 2 64, sIn2 key b P1, .eff [] 2)) ∧
     ((none : Option Value) = none ∧ effI (appendCore (sIn2 key b P1) 1 1 (.int .u8 0) (rowR 2 64) (source (sIn2 key b P1) 1 (slR 1 q))) none 3 = some (rowR 3 (64 + q), sIn3 key b X1, .eff [2] 3)) ∧
     ((none : Option Value) = none ∧ effI (callE bsumE.ks bsumE.spec [rowR 3 (64 + q)] (sIn3 key b X1)) (greads bsumE.ks [rowR 3 (64 + q)]) 4 = some (ag d, sIn3 key b X1, .load [3])) ∧
     ((none : Option Value) = none ∧ effI (callE [.sl false, .sl false] (h2Spec (hmacV wordO)) (aH p q) (sIn4 key b X1 d)) (greads [.sl false, .sl false] (aH p q)) 5 = some (ag g, sIn4 key b X1 d, .load [0, 1])) ∧
     ((none : Option Value) = none ∧ effI (callE blockE.ks blockE.spec [slR 0 p, .int .u8 92] (sIn4 key b X1 d)) (greads blockE.ks [slR 0 p, .int .u8 92]) 5 = some (rowR 5 64, sIn5 key b X1 P2 d, .eff [] 5)) ∧
     ((none : Option Value) = none ∧ effI (appendCore (sIn5 key b X1 P2 d) 1 1 (.int .u8 0) (rowR 5 64) (source (sIn5 key b X1 P2 d) 1 (slR 4 32))) none 6 = some (rowR 6 96, sIn6 key b X1 X2 d, .eff [5] 6)) ∧
     ((none : Option Value) = none ∧ effI (callE bsumE.ks bsumE.spec [rowR 6 96] (sIn6 key b X1 X2 d)) (greads bsumE.ks [rowR 6 96]) 7 = some (ag g, sIn6 key b X1 X2 d, .load [6])) ∧
     eqAg (agL g) (agL g) = some (.bool true) ∧ True) := by kernel_rfl
theorem inner_ac {key b : List Int} (hk : key.length ≤ 140737488351232) (hb : b.length ≤ 140737488351232) : AC Try.prog 21 (aH key.length b.length) (sH key b) (.bool true) (sH key b) := by
  refine runNH_ok inEs_ok Try.func21 (by kernel_rfl) ?_ (inR key b (padB 54 (keyF wordO key)) (padB 92 (keyF wordO key)) (padL 54 (keyF wordO key) b) (padL 92 (keyF wordO key) (out8 (dgv wordO (padL 54 (keyF wordO key) b)))) _ _ (dgv wordO (padL 54 (keyF wordO key) b)) (hmacV wordO key b)) rfl (plH key b) rfl
  rw [inP]
  have hl1 := padL_length 54 (keyF wordO key) b
  have hl2 := padL_length 92 (keyF wordO key) (out8 (dgv wordO (padL 54 (keyF wordO key) b)))
  rw [out8_length] at hl2
  generalize hd : dgv wordO (padL 54 (keyF wordO key) b) = d at *
  have hg : hmacV wordO key b = dgv wordO (padL 92 (keyF wordO key) (out8 d)) := by rw [← hd]; rfl
  refine ⟨⟨rfl, owe_block (Bys.all rfl) hk rfl⟩, ⟨rfl, ?_⟩, ⟨rfl, ?_⟩, ⟨rfl, owe_h2 (Bys.all rfl) (Bys.all rfl) (by omega) (by omega) rfl⟩, ⟨rfl, owe_block (Bys.all rfl) hk rfl⟩, ⟨rfl, ?_⟩, ⟨rfl, ?_⟩, eqAg_g _, trivial⟩
  · have hs := source_bys (st := sIn2 key b (padB 54 (keyF wordO key))) (Bys.all (i := 1) (l := b) rfl)
    have ha := append_cap (st := sIn2 key b (padB 54 (keyF wordO key))) (i := 2) (c := 64) (a := padB 54 (keyF wordO key)) (l := b) rfl (padB_length _ _) (by omega)
    rw [hs, rowR, ha]
    rfl
  · have := owe_dg (st := sIn3 key b (padL 54 (keyF wordO key) b)) (len := 4) (row_bytes (i := 3) (kd := .row 1) rfl hl1) (by omega) rfl
    rw [hd] at this
    exact this
  · have hs := source_bys (st := sIn5 key b (padL 54 (keyF wordO key) b) (padB 92 (keyF wordO key)) d) (Bys.all (i := 4) (l := out8 d) rfl)
    have ha := append_cap (st := sIn5 key b (padL 54 (keyF wordO key) b) (padB 92 (keyF wordO key)) d) (i := 5) (c := 64) (a := padB 92 (keyF wordO key)) (l := out8 d) rfl (padB_length _ _) (by rw [out8_length]; decide)
    rw [out8_length] at hs ha
    rw [hs, rowR, ha]
    rfl
  · have := owe_dg (st := sIn6 key b (padL 54 (keyF wordO key) b) (padL 92 (keyF wordO key) (out8 d)) d) (len := 7) (row_bytes (i := 6) (kd := .row 1) rfl hl2) (by omega) rfl
    rw [← hg] at this
    exact this
end Go.Proofs.Ytmpcmefokjlknaa.Kd
