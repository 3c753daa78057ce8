/- Keys of a chain: entries of Two and Three; the document's; the laws KdfChains and KdfTwo. Without conditions. -/
import Derived.Test.YtmpcmefokjlknaaKdI
namespace Go.Proofs.Ytmpcmefokjlknaa.Kd
open Am Run IntWalk Bl Byt

/-- What a function of a chain and bytes tells. -/
def tsSpec (R : (Nat → Int) → List Int → Value) (args : List Value) (st : St) : Option (Value × St) :=
  match args, st with
  | [.agg cs, .slice (some ⟨1, 0, none⟩) m d], [none, some ⟨xs, .ro⟩] => match u8s cs.toList, u8s xs with
    | some k, some b => if k.length = 32 ∧ m = b.length ∧ d = b.length ∧ b.length ≤ 140737488351232 then some (R (fun i => k.getD i 0) b, sTw b) else none
    | _, _ => none
  | _, _ => none
theorem ts_ok {R : (Nat → Int) → List Int → Value} {f : FuncId} {fn : Func} (hf : Try.prog.funcs[f]? = some fn) (hn : (fn.name == "runtime.NumGoroutine") = false) (hb : fn.body.isNone = false)
    (h : ∀ (Z : Nat → Int) (b : List Int), b.length ≤ 140737488351232 → AC Try.prog f (aTw Z b.length) (sTw b) (R Z b) (sTw b)) : EntryOk Try.prog ⟨f, [.val, .sl false], tsSpec R⟩ := by
  refine ⟨fun a s r s' hh => ?_, body_of hf hn hb⟩
  simp only at hh
  unfold tsSpec at hh
  split at hh
  · split at hh
    · rename_i k b hk hb2
      split at hh
      · rename_i hc
        obtain ⟨h1, rfl, rfl, h4⟩ := hc
        cases hh
        rw [agg_u8 hk, u8s_spec hb2]
        have := h (fun i => k.getD i 0) b h4
        unfold aTw at this
        rw [← k32_of h1] at this
        exact this
      · cases hh
    · cases hh
  · cases hh
theorem owe_ts {R : (Nat → Int) → List Int → Value} (hR : ∀ (Z : Nat → Int) b, R (fun i => (k32 Z).getD i 0) b = R Z b) (hs : ∀ (σ : Sig) Z b, sub σ (R Z b) = some (R Z b)) {st : St} {y : Value} {j p len : Nat} {Z : Nat → Int} {b : List Int} (hy : Bys st y j p b) (hb : b.length ≤ 140737488351232) (hl : st.length = len) :
    effI (callE [.val, .sl false] (tsSpec R) [kag (k32 Z), y] st) (greads [.val, .sl false] [kag (k32 Z), y]) len = some (R Z b, st, .load [j]) := by
  have h1 : ∀ e, pick1 e 0 .val (kag (k32 Z)) = some (kag (k32 Z), none) := fun e => by simp only [pick1, plain_kag, if_true]
  have hbr : bares [.val, .sl false] [kag (k32 Z), y] = false := by simp only [bares, hy.bare, Bool.or_false]; rfl
  have hpk : picks 0 [.val, .sl false] 0 [kag (k32 Z), y] = some ([kag (k32 Z), slR 1 b.length], [none, some ⟨j, p, b.length, false⟩]) := by simp only [picks, hy.pick, h1]
  refine owe_see hbr hpk rfl ?_ hl
  have := gcall_look (ks := [.val, .sl false]) (spec := tsSpec R) (st := st) (sst := sTw b) (news := []) (news' := []) (res := R Z b) (res' := R Z b) hbr hpk (smalls_none (hy.small smalls_nil)) (by simp [disjFps, disj1]) (by
    simp only [tsSpec, kag, slR, sTw, byR, u8s_map]
    rw [if_pos ⟨k32_length Z, trivial, trivial, hb⟩, hR]
    rfl) (by simp) rfl (hs _ _ _)
  simpa using this
def twF (w : WD) (Z : Nat → Int) (b : List Int) : Value := twV (kyV w Z b 0) (kyV w Z b 1)
def thF (w : WD) (Z : Nat → Int) (b : List Int) : Value := thV (kyV w Z b 0) (kyV w Z b 1) (kyV w Z b 2)
theorem twF_k32 (w : WD) (Z : Nat → Int) (b : List Int) : twF w (fun i => (k32 Z).getD i 0) b = twF w Z b := by unfold twF; simp only [kyV_k32]
theorem thF_k32 (w : WD) (Z : Nat → Int) (b : List Int) : thF w (fun i => (k32 Z).getD i 0) b = thF w Z b := by unfold thF; simp only [kyV_k32]
noncomputable def twE : Entry := ⟨22, [.val, .sl false], tsSpec (twF wordO)⟩
theorem twE_ok : EntryOk Try.prog twE := ts_ok Try.func22 (by kernel_rfl) (by kernel_rfl) fun Z b hb => two_ac Z (by omega)
noncomputable def thE : Entry := ⟨24, [.val, .sl false], tsSpec (thF wordO)⟩
theorem thE_ok : EntryOk Try.prog thE := ts_ok Try.func24 (by kernel_rfl) (by kernel_rfl) fun Z b hb => three_ac Z (by omega)

/-! the document's -/
noncomputable def rkE : Entry := ⟨32, [.sl false, .val], goC [] 33 Try.f32⟩
theorem rkE_ok : EntryOk Try.prog rkE := entryC es0 Try.func32 (by kernel_rfl) (by kernel_rfl)
noncomputable def rtEs : List Entry := [rextractE, rexpandE, rkE]
theorem rtEs_ok : ∀ e ∈ rtEs, EntryOk Try.prog e := esc rextractE_ok (esc rexpandE_ok (es1 rkE_ok))
def hRt (e : V8) (o : List Int) : Hint := ⟨fun r i => match r, i with
  | 1, 2 => some (.read (ag e) [2, 1])
  | 1, 3 => some (.eff (.tuple #[sl0 7 96 96, .int .i64 0]) (fun s => s ++ [some ⟨[], .rw⟩] ++ [byR o (.row 1)]) [])
  | _, _ => none, fun _ => none⟩
theorem rtR (Z : Nat → Int) (b : List Int) (p : Nat) (e g0 g1 g2 : V8) : goVH rtEs (hRt e (out3 g0 g1 g2)) 0 Try.f25 (aTw Z p) (sTw b) [0, 1] = some (thV g0 g1 g2, sTw b) := by kernel_rfl
theorem rtP (Z : Nat → Int) (b : List Int) (p : Nat) (e g0 g1 g2 : V8) : owes rtEs (hRt e (out3 g0 g1 g2)) 0 Try.f25 (aTw Z p) (sTw b) =
    (((none : Option Value) = none ∧ effI (callE [.sl false, .sl false] (h2SpecR (hmacV wordA)) [slR 2 32, slR 1 p] (sT6 Z b)) (greads [.sl false, .sl false] [slR 2 32, slR 1 p]) 6 = some (ag e, sT6 Z b, .load [2, 1])) ∧
     ((none : Option Value) = none ∧ effI (callE xKs (rexpandSpec wordA) (xArgs (out8 e) (.slice none 0 0) ((96 : Nat) : Int)) (sT6 Z b)) (greads xKs (xArgs (out8 e) (.slice none 0 0) ((96 : Nat) : Int))) 6 = some (.tuple #[sl0 7 96 96, .int .i64 0], sT6 Z b ++ [some ⟨[], .rw⟩] ++ [byR (out3 g0 g1 g2) (.row 1)], .eff [] 6)) ∧ True) := by kernel_rfl
theorem rthree_ac (Z : Nat → Int) {b : List Int} (hb : b.length ≤ 140737488351232) : AC Try.prog 25 (aTw Z b.length) (sTw b) (thF wordA Z b) (sTw b) := by
  refine runVH_ok rtEs_ok Try.func25 (by kernel_rfl) (hint := hRt (exV wordA Z b) (out3 (kyV wordA Z b 0) (kyV wordA Z b 1) (kyV wordA Z b 2))) (n := 0) ?_ (rtR Z b _ _ _ _ _) rfl rfl (plTw b) (sub_th _ _ _ _)
  rw [rtP]
  refine ⟨⟨rfl, owe_h2R (Bys.all (i := 2) (l := k32 Z) rfl) (Bys.all rfl) (by rw [k32_length]; decide) (by omega) rfl⟩, ⟨rfl, ?_⟩, trivial⟩
  have := owe_rexpandNil (st := sT6 Z b) (len := 6) (z := 96) (k := out8 (exV wordA Z b)) (out8_length _) (by decide) (by decide) rfl
  rw [show nblk 96 = 3 from rfl, outT_three] at this
  exact this
noncomputable def rthE : Entry := ⟨25, [.val, .sl false], tsSpec (thF wordA)⟩
theorem rthE_ok : EntryOk Try.prog rthE := ts_ok Try.func25 (by kernel_rfl) (by kernel_rfl) fun Z b hb => rthree_ac Z hb
def hRw (g0 g1 g2 : V8) : Hint := ⟨fun r i => match r, i with
  | 1, 2 => some (.read (thV g0 g1 g2) [1])
  | _, _ => none, fun _ => none⟩
theorem rwR (Z : Nat → Int) (b : List Int) (p : Nat) (g0 g1 g2 : V8) : goVH [rthE] (hRw g0 g1 g2) 0 Try.f23 (aTw Z p) (sTw b) [0, 1] = some (twV g0 g1, sTw b) := by kernel_rfl
theorem rwP (Z : Nat → Int) (b : List Int) (p : Nat) (g0 g1 g2 : V8) : owes [rthE] (hRw g0 g1 g2) 0 Try.f23 (aTw Z p) (sTw b) =
    (((none : Option Value) = none ∧ effI (callE [.val, .sl false] (tsSpec (thF wordA)) [kag (k32 Z), slR 1 p] (sT5 Z b)) (greads [.val, .sl false] [kag (k32 Z), slR 1 p]) 5 = some (thV g0 g1 g2, sT5 Z b, .load [1])) ∧ True) := by kernel_rfl
theorem sub_twF (w : WD) (σ : Sig) (Z : Nat → Int) (b : List Int) : sub σ (twF w Z b) = some (twF w Z b) := sub_tw _ _ _
theorem sub_thF (w : WD) (σ : Sig) (Z : Nat → Int) (b : List Int) : sub σ (thF w Z b) = some (thF w Z b) := sub_th _ _ _ _
theorem rtwo_ac (Z : Nat → Int) {b : List Int} (hb : b.length ≤ 140737488351232) : AC Try.prog 23 (aTw Z b.length) (sTw b) (twF wordA Z b) (sTw b) := by
  refine runVH_ok (es1 rthE_ok) Try.func23 (by kernel_rfl) ?_ (rwR Z b _ (kyV wordA Z b 0) (kyV wordA Z b 1) (kyV wordA Z b 2)) rfl rfl (plTw b) (sub_tw _ _ _)
  rw [rwP]
  exact ⟨⟨rfl, owe_ts (thF_k32 wordA) (sub_thF wordA) (Bys.all (i := 1) rfl) hb rfl⟩, trivial⟩
noncomputable def rtwE : Entry := ⟨23, [.val, .sl false], tsSpec (twF wordA)⟩
theorem rtwE_ok : EntryOk Try.prog rtwE := ts_ok Try.func23 (by kernel_rfl) (by kernel_rfl) fun Z b hb => rtwo_ac Z hb

/-! KdfChains -/
noncomputable def lcEs : List Entry := [twE, rtwE, thE, rthE, kworksE]
theorem lcEs_ok : ∀ e ∈ lcEs, EntryOk Try.prog e := esc twE_ok (esc rtwE_ok (esc thE_ok (esc rthE_ok (es1 kworksE_ok))))
def hLc (g0 g1 g2 : V8) : Hint := ⟨fun r i => match r, i with
  | 1, 2 => some (.read (twV g0 g1) [1])
  | 2, 2 => some (.read (twV g0 g1) [1])
  | 3, 2 => some (.read (thV g0 g1 g2) [1])
  | 4, 2 => some (.read (thV g0 g1 g2) [1])
  | 5, 2 => some (.pure (.bool true))
  | 5, 6 => some (.pure (.bool true))
  | 5, 11 => some (.pure (.bool true))
  | 5, 16 => some (.pure (.bool true))
  | 5, 21 => some (.pure (.bool true))
  | _, _ => none, fun _ => none⟩
def o8 (g : V8) : Option Reg := byR (out8 g) .rw
def agL (g : V8) : List Value := (out8 g).map (.int .u8)
theorem eqAg_g (g : V8) : eqAg (agL g) (agL g) = some (.bool true) := eqAg_self _
def tsA (Z : Nat → Int) (p : Nat) : List Value := [kag (k32 Z), slR 1 p]
def sLc (Z : Nat → Int) (b : List Int) (l : St) : St := none :: byR b .ro :: byR (k32 Z) .rw :: l
theorem lcR (Z : Nat → Int) (b : List Int) (p : Nat) (g0 g1 g2 : V8) : goNH lcEs (hLc g0 g1 g2) 0 Try.f9 (aTw Z p) (sTw b) = some (.bool true, sTw b) := by kernel_rfl
theorem lcP (Z : Nat → Int) (b : List Int) (p : Nat) (g0 g1 g2 : V8) : owes lcEs (hLc g0 g1 g2) 0 Try.f9 (aTw Z p) (sTw b) =
    (((none : Option Value) = none ∧ effI (callE [.val, .sl false] (tsSpec (twF wordO)) (tsA Z p) (sLc Z b [])) (greads [.val, .sl false] (tsA Z p)) 3 = some (twV g0 g1, sLc Z b [], .load [1])) ∧
     ((none : Option Value) = none ∧ effI (callE [.val, .sl false] (tsSpec (twF wordA)) (tsA Z p) (sLc Z b [o8 g0, o8 g1])) (greads [.val, .sl false] (tsA Z p)) 5 = some (twV g0 g1, sLc Z b [o8 g0, o8 g1], .load [1])) ∧
     ((none : Option Value) = none ∧ effI (callE [.val, .sl false] (tsSpec (thF wordO)) (tsA Z p) (sLc Z b [o8 g0, o8 g1, o8 g0, o8 g1])) (greads [.val, .sl false] (tsA Z p)) 7 = some (thV g0 g1 g2, sLc Z b [o8 g0, o8 g1, o8 g0, o8 g1], .load [1])) ∧
     ((none : Option Value) = none ∧ effI (callE [.val, .sl false] (tsSpec (thF wordA)) (tsA Z p) (sLc Z b [o8 g0, o8 g1, o8 g0, o8 g1, o8 g0, o8 g1, o8 g2])) (greads [.val, .sl false] (tsA Z p)) 10 = some (thV g0 g1 g2, sLc Z b [o8 g0, o8 g1, o8 g0, o8 g1, o8 g0, o8 g1, o8 g2], .load [1])) ∧
     eqAg (agL g0) (agL g0) = some (.bool true) ∧ eqAg (agL g1) (agL g1) = some (.bool true) ∧ eqAg (agL g0) (agL g0) = some (.bool true) ∧ eqAg (agL g1) (agL g1) = some (.bool true) ∧ eqAg (agL g2) (agL g2) = some (.bool true) ∧ True) := by kernel_rfl
theorem kyV_B8 {Z : Nat → Int} {b : List Int} (hZ : ∀ i, i < 32 → B8 (Z i)) (hb : ∀ y ∈ b, B8 y) (i : Nat) : kyV wordO Z b i = kyV wordA Z b i := by
  have hK : ∀ y ∈ k32 Z, B8 y := fun y hy => by
    obtain ⟨i, hi, rfl⟩ := List.mem_map.1 hy
    exact hZ i (List.mem_range.1 hi)
  unfold kyV exV
  rw [hmac_B8 hK hb]
  exact gT_B8 (out8_B8 _) (by simp) i
theorem lawChains (Z : Nat → Int) (b : List Int) (hZ : ∀ i, i < 32 → B8 (Z i)) (hB : ∀ y ∈ b, B8 y) (hb : b.length ≤ 140737488351232) : AC Try.prog 9 (aTw Z b.length) (sTw b) (.bool true) (sTw b) := by
  refine runNH_ok lcEs_ok Try.func9 (by kernel_rfl) ?_ (lcR Z b _ (kyV wordO Z b 0) (kyV wordO Z b 1) (kyV wordO Z b 2)) rfl (plTw b) rfl
  rw [lcP]
  have e : ∀ i, kyV wordA Z b i = kyV wordO Z b i := fun i => (kyV_B8 hZ hB i).symm
  have r1 : twF wordA Z b = twV (kyV wordO Z b 0) (kyV wordO Z b 1) := by unfold twF; rw [e, e]
  have r2 : thF wordA Z b = thV (kyV wordO Z b 0) (kyV wordO Z b 1) (kyV wordO Z b 2) := by unfold thF; rw [e, e, e]
  refine ⟨⟨rfl, owe_ts (twF_k32 wordO) (sub_twF wordO) (Bys.all (i := 1) rfl) hb rfl⟩, ⟨rfl, ?_⟩, ⟨rfl, owe_ts (thF_k32 wordO) (sub_thF wordO) (Bys.all (i := 1) rfl) hb rfl⟩, ⟨rfl, ?_⟩, eqAg_g _, eqAg_g _, eqAg_g _, eqAg_g _, eqAg_g _, trivial⟩
  · rw [← r1]; exact owe_ts (twF_k32 wordA) (sub_twF wordA) (Bys.all (i := 1) rfl) hb rfl
  · rw [← r2]; exact owe_ts (thF_k32 wordA) (sub_thF wordA) (Bys.all (i := 1) rfl) hb rfl

/-! KdfTwo -/
noncomputable def ltEs : List Entry := [twE, thE, extractE, expandE, eqBytesE, kworksE]
theorem ltEs_ok : ∀ e ∈ ltEs, EntryOk Try.prog e := esc twE_ok (esc thE_ok (esc extractE_ok (esc expandE_ok (esc eqBytesE_ok (es1 kworksE_ok)))))
def hLt (e g0 g1 g2 : V8) : Hint := ⟨fun r i => match r, i with
  | 3, 2 => some (.read (twV g0 g1) [1])
  | 4, 2 => some (.read (thV g0 g1 g2) [1])
  | 5, 2 => some (.read (ag e) [2, 1])
  | 5, 3 => some (.eff (.tuple #[sl0 9 96 96, .int .i64 0]) (fun s => s ++ [some ⟨[], .rw⟩] ++ [byR (out3 g0 g1 g2) (.row 1)]) [])
  | 6, 2 => some (.pure (.bool true))
  | 6, 6 => some (.pure (.bool true))
  | 6, 21 => some (.read (.bool true) [9, 5])
  | 6, 27 => some (.read (.bool true) [9, 6])
  | 6, 33 => some (.read (.bool true) [9, 7])
  | _, _ => none, fun _ => none⟩
def sLt (Z : Nat → Int) (b : List Int) (g0 g1 g2 : V8) : St := sLc Z b [o8 g0, o8 g1, o8 g0, o8 g1, o8 g2]
def sLt9 (Z : Nat → Int) (b : List Int) (g0 g1 g2 : V8) : St := sLt Z b g0 g1 g2 ++ [some ⟨[], .rw⟩] ++ [byR (out3 g0 g1 g2) (.row 1)]
def slo (i o c : Nat) : Value := .slice (some ⟨i, o, none⟩) 32 c
theorem ltR (Z : Nat → Int) (b : List Int) (p : Nat) (e g0 g1 g2 : V8) : goNH ltEs (hLt e g0 g1 g2) 0 Try.f10 (aTw Z p) (sTw b) = some (.bool true, sTw b) := by kernel_rfl
theorem ltP (Z : Nat → Int) (b : List Int) (p : Nat) (e g0 g1 g2 : V8) : owes ltEs (hLt e g0 g1 g2) 0 Try.f10 (aTw Z p) (sTw b) =
    (((none : Option Value) = none ∧ effI (callE [.val, .sl false] (tsSpec (twF wordO)) (tsA Z p) (sLc Z b [])) (greads [.val, .sl false] (tsA Z p)) 3 = some (twV g0 g1, sLc Z b [], .load [1])) ∧
     ((none : Option Value) = none ∧ effI (callE [.val, .sl false] (tsSpec (thF wordO)) (tsA Z p) (sLc Z b [o8 g0, o8 g1])) (greads [.val, .sl false] (tsA Z p)) 5 = some (thV g0 g1 g2, sLc Z b [o8 g0, o8 g1], .load [1])) ∧
     ((none : Option Value) = none ∧ effI (callE [.sl false, .sl false] (h2Spec (hmacV wordO)) [slR 2 32, slR 1 p] (sLt Z b g0 g1 g2)) (greads [.sl false, .sl false] [slR 2 32, slR 1 p]) 8 = some (ag e, sLt Z b g0 g1 g2, .load [2, 1])) ∧
     ((none : Option Value) = none ∧ effI (callE xKs (expandSpec wordO) (xArgs (out8 e) (.slice none 0 0) ((96 : Nat) : Int)) (sLt Z b g0 g1 g2)) (greads xKs (xArgs (out8 e) (.slice none 0 0) ((96 : Nat) : Int))) 8 = some (.tuple #[sl0 9 96 96, .int .i64 0], sLt9 Z b g0 g1 g2, .eff [] 8)) ∧
     eqAg (agL g0) (agL g0) = some (.bool true) ∧ eqAg (agL g1) (agL g1) = some (.bool true) ∧
     ((none : Option Value) = none ∧ effI (callE eqBytesE.ks eqBytesE.spec [slo 9 0 96, slR 5 32] (sLt9 Z b g0 g1 g2)) (greads eqBytesE.ks [slo 9 0 96, slR 5 32]) 10 = some (.bool true, sLt9 Z b g0 g1 g2, .load [9, 5])) ∧
     ((none : Option Value) = none ∧ effI (callE eqBytesE.ks eqBytesE.spec [slo 9 32 64, slR 6 32] (sLt9 Z b g0 g1 g2)) (greads eqBytesE.ks [slo 9 32 64, slR 6 32]) 10 = some (.bool true, sLt9 Z b g0 g1 g2, .load [9, 6])) ∧
     ((none : Option Value) = none ∧ effI (callE eqBytesE.ks eqBytesE.spec [slo 9 64 32, slR 7 32] (sLt9 Z b g0 g1 g2)) (greads eqBytesE.ks [slo 9 64 32, slR 7 32]) 10 = some (.bool true, sLt9 Z b g0 g1 g2, .load [9, 7])) ∧ True) := by kernel_rfl
theorem out3_length (g0 g1 g2 : V8) : (out3 g0 g1 g2).length = 96 := rfl
theorem out3_at0 (g0 g1 g2 : V8) : ((out3 g0 g1 g2).drop 0).take 32 = out8 g0 := rfl
theorem out3_at1 (g0 g1 g2 : V8) : ((out3 g0 g1 g2).drop 32).take 32 = out8 g1 := rfl
theorem out3_at2 (g0 g1 g2 : V8) : ((out3 g0 g1 g2).drop 64).take 32 = out8 g2 := rfl
theorem slo_bys {st : St} {i o c : Nat} {l r : List Int} {kd : RK} (h : st[i]? = some (byR l kd)) (ho : o + 32 ≤ l.length) (hc : 32 ≤ c) (hr : (l.drop o).take 32 = r) : Bys st (slo i o c) i o r := by
  subst hr
  exact Bys.part h ho hc
theorem lawTwo (Z : Nat → Int) (b : List Int) (hb : b.length ≤ 140737488351232) : AC Try.prog 10 (aTw Z b.length) (sTw b) (.bool true) (sTw b) := by
  refine runNH_ok ltEs_ok Try.func10 (by kernel_rfl) ?_ (ltR Z b _ (exV wordO Z b) (kyV wordO Z b 0) (kyV wordO Z b 1) (kyV wordO Z b 2)) rfl (plTw b) rfl
  rw [ltP]
  generalize hg0 : kyV wordO Z b 0 = g0
  generalize hg1 : kyV wordO Z b 1 = g1
  generalize hg2 : kyV wordO Z b 2 = g2
  have q0 := out8_length g0
  have q1 := out8_length g1
  have q2 := out8_length g2
  refine ⟨⟨rfl, ?_⟩, ⟨rfl, ?_⟩, ⟨rfl, owe_h2 (Bys.all (i := 2) (l := k32 Z) rfl) (Bys.all (i := 1) rfl) (by rw [k32_length]; decide) (by omega) rfl⟩, ⟨rfl, ?_⟩, eqAg_g _, eqAg_g _,
    ⟨rfl, eq_self (b := out8 g0) (slo_bys (i := 9) (l := out3 g0 g1 g2) rfl (by rw [out3_length]; decide) (by decide) (out3_at0 _ _ _)) (Bys.all (i := 5) (l := out8 g0) rfl) (by rw [q0]; decide) rfl⟩,
    ⟨rfl, eq_self (b := out8 g1) (slo_bys (i := 9) (l := out3 g0 g1 g2) rfl (by rw [out3_length]; decide) (by decide) (out3_at1 _ _ _)) (Bys.all (i := 6) (l := out8 g1) rfl) (by rw [q1]; decide) rfl⟩,
    ⟨rfl, eq_self (b := out8 g2) (slo_bys (i := 9) (l := out3 g0 g1 g2) rfl (by rw [out3_length]; decide) (by decide) (out3_at2 _ _ _)) (Bys.all (i := 7) (l := out8 g2) rfl) (by rw [q2]; decide) rfl⟩, trivial⟩
  · have := owe_ts (twF_k32 wordO) (sub_twF wordO) (st := sLc Z b []) (Z := Z) (Bys.all (i := 1) (l := b) rfl) hb (len := 3) rfl
    unfold twF at this
    rw [hg0, hg1] at this
    exact this
  · have := owe_ts (thF_k32 wordO) (sub_thF wordO) (st := sLc Z b [o8 g0, o8 g1]) (Z := Z) (Bys.all (i := 1) (l := b) rfl) hb (len := 5) rfl
    unfold thF at this
    rw [hg0, hg1, hg2] at this
    exact this
  · have := owe_expandNil (st := sLt Z b g0 g1 g2) (len := 8) (z := 96) (k := out8 (exV wordO Z b)) (out8_length _) (by decide) rfl
    rw [show nblk 96 = 3 from rfl, outT_three] at this
    rw [← hg0, ← hg1, ← hg2] at this ⊢
    exact this
end Go.Proofs.Ytmpcmefokjlknaa.Kd
