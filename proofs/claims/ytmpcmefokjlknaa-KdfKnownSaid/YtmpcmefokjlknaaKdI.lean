/- Keys of a chain: kdf.chain, Two, Three; the document's key, Three, Two. Without conditions. -/
import Derived.Test.YtmpcmefokjlknaaKdG
namespace Go.Proofs.Ytmpcmefokjlknaa.Kd
open Am Run IntWalk Bl Byt

/-! kdf.chain -/
noncomputable def chEs : List Entry := [extractE, expandE]
theorem chEs_ok : ∀ e ∈ chEs, EntryOk Try.prog e := esc extractE_ok (es1 expandE_ok)
def hCh (e : V8) (o : List Int) (z : Nat) : Hint := ⟨fun r i => match r, i with
  | 1, 2 => some (.read (ag e) [3, 1])
  | 1, 5 => some (.eff (.tuple #[sl0 5 z z, .int .i64 0]) (fun s => s ++ [some ⟨[], .rw⟩] ++ [byR o (.row 1)]) [])
  | _, _ => none, fun _ => none⟩
def out2 (g0 g1 : V8) : List Int := out8 g0 ++ out8 g1
def out3 (g0 g1 g2 : V8) : List Int := out8 g0 ++ out8 g1 ++ out8 g2
def sCh (Z : Nat → Int) (b : List Int) : St := sE b ++ [byR (k32 Z) .rw]
def rowK (i n : Nat) : Value := .slice (some ⟨i, 0, some 1⟩) n n
/-- Run, and some regions are told of. -/
noncomputable def goVH (es : List Entry) (h : Hint) (n : Nat) (fn : Func) (args : List Value) (st : St) (ids : List Nat) : Option (Value × St) :=
  match goFH es h n fn args st with
  | some (r, s) => some (r, ids.map fun id => (s[id]?).getD none)
  | none => none
theorem runVH_ok {es : List Entry} (hes : ∀ e ∈ es, EntryOk Try.prog e) {f : FuncId} {fn : Func} {hint : Hint} {n : Nat} (hf : Try.prog.funcs[f]? = some fn) (hb : fn.body.isNone = false) {a : List Value} {s : St} {r r2 : Value} {s2 : St} {ids : List Nat} (hP : owes es hint n fn a s) (h : goVH es hint n fn a s ids = some (r, s2))
    (hids : ids.take s.length = List.range s.length) (hnd : nodupB ids = true) (hpl : s2.all plainReg = true) (hres : sub (sigIds ids) r2 = some r) : AC Try.prog f a s r2 s2 := by
  unfold goVH at h
  split at h
  · rename_i r1 s1 h1
    simp at h; obtain ⟨rfl, rfl⟩ := h
    exact view_plain (runH_ok hes hf hb hP h1) ids hids hnd rfl hpl hres
  · cases h
theorem ch2R (Z : Nat → Int) (b : List Int) (p : Nat) (e g0 g1 : V8) : goVH chEs (hCh e (out2 g0 g1) 64) 4 Try.f31 (aX Z p 2) (sE b) [0, 1, 2, 9] = some (rowK 9 2, sE b ++ [byR (out2 g0 g1) (.row 32)]) := by kernel_rfl
theorem ch3R (Z : Nat → Int) (b : List Int) (p : Nat) (e g0 g1 g2 : V8) : goVH chEs (hCh e (out3 g0 g1 g2) 96) 4 Try.f31 (aX Z p 3) (sE b) [0, 1, 2, 11] = some (rowK 11 3, sE b ++ [byR (out3 g0 g1 g2) (.row 32)]) := by kernel_rfl
theorem ch2P (Z : Nat → Int) (b : List Int) (p : Nat) (e g0 g1 : V8) : owes chEs (hCh e (out2 g0 g1) 64) 4 Try.f31 (aX Z p 2) (sE b) =
    (((none : Option Value) = none ∧ effI (callE [.sl false, .sl false] (h2Spec (hmacV wordO)) [slR 3 32, slR 1 p] (sCh Z b)) (greads [.sl false, .sl false] [slR 3 32, slR 1 p]) 4 = some (ag e, sCh Z b, .load [3, 1])) ∧
     ((none : Option Value) = none ∧ effI (callE xKs (expandSpec wordO) (xArgs (out8 e) (.slice none 0 0) ((64 : Nat) : Int)) (sCh Z b)) (greads xKs (xArgs (out8 e) (.slice none 0 0) ((64 : Nat) : Int))) 4 = some (.tuple #[sl0 5 64 64, .int .i64 0], sCh Z b ++ [some ⟨[], .rw⟩] ++ [byR (out2 g0 g1) (.row 1)], .eff [] 4)) ∧ True) := by kernel_rfl
theorem ch3P (Z : Nat → Int) (b : List Int) (p : Nat) (e g0 g1 g2 : V8) : owes chEs (hCh e (out3 g0 g1 g2) 96) 4 Try.f31 (aX Z p 3) (sE b) =
    (((none : Option Value) = none ∧ effI (callE [.sl false, .sl false] (h2Spec (hmacV wordO)) [slR 3 32, slR 1 p] (sCh Z b)) (greads [.sl false, .sl false] [slR 3 32, slR 1 p]) 4 = some (ag e, sCh Z b, .load [3, 1])) ∧
     ((none : Option Value) = none ∧ effI (callE xKs (expandSpec wordO) (xArgs (out8 e) (.slice none 0 0) ((96 : Nat) : Int)) (sCh Z b)) (greads xKs (xArgs (out8 e) (.slice none 0 0) ((96 : Nat) : Int))) 4 = some (.tuple #[sl0 5 96 96, .int .i64 0], sCh Z b ++ [some ⟨[], .rw⟩] ++ [byR (out3 g0 g1 g2) (.row 1)], .eff [] 4)) ∧ True) := by kernel_rfl
theorem outL_two (G : Nat → V8) : outL G 2 = out2 (G 0) (G 1) := by
  rw [outL, outL_one]; rfl
theorem outL_three (G : Nat → V8) : outL G 3 = out3 (G 0) (G 1) (G 2) := by
  rw [outL, outL_two]; rfl
theorem outT_two (w : WD) (k info : List Int) : outT w k info 2 = out2 (gT w k info 0) (gT w k info 1) := (outT_L w k info 2).trans (outL_two _)
theorem outT_three (w : WD) (k info : List Int) : outT w k info 3 = out3 (gT w k info 0) (gT w k info 1) (gT w k info 2) := (outT_L w k info 3).trans (outL_three _)
/-- What is extracted of a chain and something, and the i-th key of it. -/
def exV (w : WD) (Z : Nat → Int) (b : List Int) : V8 := hmacV w (k32 Z) b
def kyV (w : WD) (Z : Nat → Int) (b : List Int) (i : Nat) : V8 := gT w (out8 (exV w Z b)) [] i
theorem out2_plain (g0 g1 : V8) (k : RK) : plainReg (byR (out2 g0 g1) k) = true := plainReg_u8 _ _
theorem plCh (b o : List Int) (k : RK) : (sE b ++ [byR o k]).all plainReg = true := by
  rw [List.all_append, plE3]
  simp only [List.all_cons, List.all_nil, byR, plainReg, plain_u8, Bool.and_true]
theorem chain2_ac (Z : Nat → Int) {b : List Int} (hb : b.length ≤ 140737488351232) : AC Try.prog 31 (aX Z b.length 2) (sE b) (rowK 3 2) (sE b ++ [byR (out2 (kyV wordO Z b 0) (kyV wordO Z b 1)) (.row 32)]) := by
  refine runVH_ok chEs_ok Try.func31 (by kernel_rfl) (hint := hCh (exV wordO Z b) (out2 (kyV wordO Z b 0) (kyV wordO Z b 1)) 64) (n := 4) ?_ (ch2R Z b _ _ _ _) rfl rfl (plCh _ _ _) rfl
  rw [ch2P]
  refine ⟨⟨rfl, owe_h2 (k32_bys Z rfl) (Bys.all rfl) (by rw [k32_length]; decide) (by omega) rfl⟩, ⟨rfl, ?_⟩, trivial⟩
  have := owe_expandNil (st := sCh Z b) (len := 4) (z := 64) (k := out8 (exV wordO Z b)) (out8_length _) (by decide) rfl
  rw [show nblk 64 = 2 from rfl, outT_two] at this
  exact this
theorem chain3_ac (Z : Nat → Int) {b : List Int} (hb : b.length ≤ 140737488351232) : AC Try.prog 31 (aX Z b.length 3) (sE b) (rowK 3 3) (sE b ++ [byR (out3 (kyV wordO Z b 0) (kyV wordO Z b 1) (kyV wordO Z b 2)) (.row 32)]) := by
  refine runVH_ok chEs_ok Try.func31 (by kernel_rfl) (hint := hCh (exV wordO Z b) (out3 (kyV wordO Z b 0) (kyV wordO Z b 1) (kyV wordO Z b 2)) 96) (n := 4) ?_ (ch3R Z b _ _ _ _ _) rfl rfl (plCh _ _ _) rfl
  rw [ch3P]
  refine ⟨⟨rfl, owe_h2 (k32_bys Z rfl) (Bys.all rfl) (by rw [k32_length]; decide) (by omega) rfl⟩, ⟨rfl, ?_⟩, trivial⟩
  have := owe_expandNil (st := sCh Z b) (len := 4) (z := 96) (k := out8 (exV wordO Z b)) (out8_length _) (by decide) rfl
  rw [show nblk 96 = 3 from rfl, outT_three] at this
  exact this
def outK (w : WD) (Z : Nat → Int) (b : List Int) (n : Int) : List Int := if n = 2 then out2 (kyV w Z b 0) (kyV w Z b 1) else out3 (kyV w Z b 0) (kyV w Z b 1) (kyV w Z b 2)
def chainSpec (args : List Value) (st : St) : Option (Value × St) :=
  match args, st with
  | [.agg cs, .slice (some ⟨1, 0, none⟩) m d, .int .i64 n], [none, some ⟨xs, .ro⟩, none] => match u8s cs.toList, u8s xs with
    | some k, some b => if k.length = 32 ∧ m = b.length ∧ d = b.length ∧ b.length ≤ 140737488351232 ∧ (n = 2 ∨ n = 3) then some (rowK 3 n.toNat, sE b ++ [byR (outK wordO (fun i => k.getD i 0) b n) (.row 32)]) else none
    | _, _ => none
  | _, _ => none
theorem agg_u8 {cs : Array Value} {k : List Int} (hk : u8s cs.toList = some k) : (.agg cs : Value) = .agg ⟨k.map (.int .u8)⟩ := by
  have h1 := u8s_spec hk
  cases cs; simp only at h1; rw [h1]
theorem chain_sp {cs : Array Value} {m d : Nat} {n : Int} {xs : List Value} {k b : List Int} {r : Value} {s' : St} (hk : u8s cs.toList = some k) (hb : u8s xs = some b) (h1 : k.length = 32) (h2 : m = b.length) (h3 : d = b.length) (h4 : b.length ≤ 140737488351232) (h5 : n = 2 ∨ n = 3)
    (h : some (rowK 3 n.toNat, sE b ++ [byR (outK wordO (fun i => k.getD i 0) b n) (.row 32)]) = some (r, s')) : AC Try.prog 31 [.agg cs, .slice (some ⟨1, 0, none⟩) m d, .int .i64 n] [none, some ⟨xs, .ro⟩, none] r s' := by
  cases h
  subst h2; subst h3
  rw [agg_u8 hk, u8s_spec hb, k32_of h1]
  rcases h5 with rfl | rfl
  · exact chain2_ac _ h4
  · exact chain3_ac _ h4
noncomputable def chainE : Entry := ⟨31, [.val, .sl false, .val], chainSpec⟩
theorem chainE_ok : EntryOk Try.prog chainE := by
  refine ⟨fun a s r s' h => ?_, body_of Try.func31 (by kernel_rfl) (by kernel_rfl)⟩
  simp only [chainE] at h
  unfold chainSpec at h
  split at h
  · split at h
    · rename_i k b hk hb
      split at h
      · rename_i hc
        exact chain_sp hk hb hc.1 hc.2.1 hc.2.2.1 hc.2.2.2.1 hc.2.2.2.2 h
      · cases h
    · cases h
  · cases h
theorem k32_k32 (Z : Nat → Int) : k32 (fun i => (k32 Z).getD i 0) = k32 Z := (k32_of (k32_length Z)).symm
theorem kyV_k32 (w : WD) (Z : Nat → Int) (b : List Int) (i : Nat) : kyV w (fun i => (k32 Z).getD i 0) b i = kyV w Z b i := by unfold kyV exV; rw [k32_k32]
theorem outK_k32 (w : WD) (Z : Nat → Int) (b : List Int) (n : Int) : outK w (fun i => (k32 Z).getD i 0) b n = outK w Z b n := by unfold outK; simp only [kyV_k32]
theorem owe_chain {st : St} {y : Value} {j p len : Nat} {Z : Nat → Int} {b : List Int} {n : Int} (hy : Bys st y j p b) (hb : b.length ≤ 140737488351232) (hn : n = 2 ∨ n = 3) (hl : st.length = len) :
    effI (callE chainE.ks chainE.spec (xArgs (k32 Z) y n) st) (greads chainE.ks (xArgs (k32 Z) y n)) len = some (rowK len n.toNat, st ++ [byR (outK wordO Z b n) (.row 32)], .eff [] len) := by
  subst hl
  refine owe_look (x_bares hy) (x_picks hy) rfl (gcall_look (sst := sE b) (news := [byR (outK wordO Z b n) (.row 32)]) (res := rowK 3 n.toNat) (x_bares hy) (x_picks hy) (smalls_none (hy.small (smalls_none smalls_nil))) (by simp [disjFps, disj1]) ?_ (by simp) (mapO_plainReg ?_) rfl) (by simp)
  · show chainSpec (xArgs (k32 Z) (slR 1 b.length) n) (sE b) = _
    simp only [chainSpec, xArgs, kag, slR, sE, byR, u8s_map]
    rw [if_pos ⟨k32_length Z, trivial, trivial, hb, hn⟩, outK_k32]
  · simp only [List.all_cons, List.all_nil, byR, plainReg, plain_u8, Bool.and_true]

/-! Two, Three -/
noncomputable def twEs : List Entry := [chainE]
theorem twEs_ok : ∀ e ∈ twEs, EntryOk Try.prog e := es1 chainE_ok
def aTw (Z : Nat → Int) (p : Nat) : List Value := [kag (k32 Z), slR 1 p]
def sTw (b : List Int) : St := [none, byR b .ro]
def hTw (g0 g1 : V8) : Hint := ⟨fun r i => match r, i with
  | 1, 2 => some (.eff (rowK 5 2) (fun s => s ++ [byR (out2 g0 g1) (.row 32)]) [])
  | _, _ => none, fun _ => none⟩
def hTh (g0 g1 g2 : V8) : Hint := ⟨fun r i => match r, i with
  | 1, 2 => some (.eff (rowK 6 3) (fun s => s ++ [byR (out3 g0 g1 g2) (.row 32)]) [])
  | _, _ => none, fun _ => none⟩
def twV (g0 g1 : V8) : Value := .tuple #[ag g0, ag g1]
def thV (g0 g1 g2 : V8) : Value := .tuple #[ag g0, ag g1, ag g2]
def sT5 (Z : Nat → Int) (b : List Int) : St := sTw b ++ [byR (k32 Z) .rw, zR, zR]
def sT6 (Z : Nat → Int) (b : List Int) : St := sTw b ++ [byR (k32 Z) .rw, zR, zR, zR]
theorem twR (Z : Nat → Int) (b : List Int) (p : Nat) (g0 g1 : V8) : goVH twEs (hTw g0 g1) 0 Try.f22 (aTw Z p) (sTw b) [0, 1] = some (twV g0 g1, sTw b) := by kernel_rfl
theorem thR (Z : Nat → Int) (b : List Int) (p : Nat) (g0 g1 g2 : V8) : goVH twEs (hTh g0 g1 g2) 0 Try.f24 (aTw Z p) (sTw b) [0, 1] = some (thV g0 g1 g2, sTw b) := by kernel_rfl
theorem twP (Z : Nat → Int) (b : List Int) (p : Nat) (g0 g1 : V8) : owes twEs (hTw g0 g1) 0 Try.f22 (aTw Z p) (sTw b) =
    (((none : Option Value) = none ∧ effI (callE chainE.ks chainE.spec (xArgs (k32 Z) (slR 1 p) 2) (sT5 Z b)) (greads chainE.ks (xArgs (k32 Z) (slR 1 p) 2)) 5 = some (rowK 5 2, sT5 Z b ++ [byR (out2 g0 g1) (.row 32)], .eff [] 5)) ∧ True) := by kernel_rfl
theorem thP (Z : Nat → Int) (b : List Int) (p : Nat) (g0 g1 g2 : V8) : owes twEs (hTh g0 g1 g2) 0 Try.f24 (aTw Z p) (sTw b) =
    (((none : Option Value) = none ∧ effI (callE chainE.ks chainE.spec (xArgs (k32 Z) (slR 1 p) 3) (sT6 Z b)) (greads chainE.ks (xArgs (k32 Z) (slR 1 p) 3)) 6 = some (rowK 6 3, sT6 Z b ++ [byR (out3 g0 g1 g2) (.row 32)], .eff [] 6)) ∧ True) := by kernel_rfl
theorem sub_tw (g0 g1 : V8) (σ : Sig) : sub σ (twV g0 g1) = some (twV g0 g1) := by kernel_rfl
theorem sub_th (g0 g1 g2 : V8) (σ : Sig) : sub σ (thV g0 g1 g2) = some (thV g0 g1 g2) := by kernel_rfl
theorem plTw (b : List Int) : (sTw b).all plainReg = true := by
  have h1 : plainReg none = true := rfl
  simp only [sTw, List.all_cons, List.all_nil, byR, plainReg_u8, h1, Bool.and_true]
theorem two_ac (Z : Nat → Int) {b : List Int} (hb : b.length ≤ 140737488351232) : AC Try.prog 22 (aTw Z b.length) (sTw b) (twV (kyV wordO Z b 0) (kyV wordO Z b 1)) (sTw b) := by
  refine runVH_ok twEs_ok Try.func22 (by kernel_rfl) ?_ (twR Z b _ _ _) rfl rfl (plTw b) (sub_tw _ _ _)
  rw [twP]
  exact ⟨⟨rfl, owe_chain (n := 2) (Bys.all (i := 1) rfl) hb (.inl rfl) rfl⟩, trivial⟩
theorem three_ac (Z : Nat → Int) {b : List Int} (hb : b.length ≤ 140737488351232) : AC Try.prog 24 (aTw Z b.length) (sTw b) (thV (kyV wordO Z b 0) (kyV wordO Z b 1) (kyV wordO Z b 2)) (sTw b) := by
  refine runVH_ok twEs_ok Try.func24 (by kernel_rfl) ?_ (thR Z b _ _ _ _) rfl rfl (plTw b) (sub_th _ _ _ _)
  rw [thP]
  exact ⟨⟨rfl, owe_chain (n := 3) (Bys.all (i := 1) rfl) hb (.inr rfl) rfl⟩, trivial⟩
end Go.Proofs.Ytmpcmefokjlknaa.Kd
