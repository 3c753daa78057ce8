/- The law KdfKnown: the machine's run of it. Without conditions. -/
import Derived.Test.YtmpcmefokjlknaaKdK
namespace Go.Proofs.Ytmpcmefokjlknaa.Kd
open Am Run IntWalk Bl Byt

/-! calls with slices without places -/
def sl2 : List AK := [.sl false, .sl false]
theorem nil_bys (st : St) : Bys (st ++ [some ⟨[], .rw⟩]) (slR st.length 0) st.length 0 [] := Bys.all (l := []) (kd := .rw) (by simp [byR])
theorem bys_more {st : St} {x : Value} {i o : Nat} {l : List Int} (h : Bys st x i o l) (r : Option Reg) : Bys (st ++ [r]) x i o l := by
  obtain ⟨a, c, cs, kd, rfl, hb, hc, hs, hn, hl⟩ := h.ex
  exact ⟨a, c, cs, kd, rfl, hb, hc, by rw [List.getElem?_append_left (List.getElem?_eq_some_iff.1 hs).1]; exact hs, hn, hl⟩
theorem owe_x_nil {F : List Value → St → Option (Value × St)} {st : St} {x r : Value} {i o len : Nat} {key : List Int} (hx : Bys st x i o key) (hF : F (aH key.length 0) (sH key []) = some (r, sH key [])) (hr : plain r = true) (hl : st.length = len) :
    effI (callE sl2 F [x, .slice none 0 0] st) (greads sl2 [x, .slice none 0 0]) len = some (r, st ++ [some ⟨[], .rw⟩], .eff [] len) := by
  subst hl
  have hbr : bares sl2 [x, .slice none 0 0] = true := by simp only [sl2, bares, hx.bare, Bool.false_or]; rfl
  have h3 : pick1 st.length (0 + 1) (.sl false) (.slice none 0 0) = some (slR 1 0, some ⟨st.length, 0, 0, false⟩) := rfl
  have hpk : picks st.length sl2 0 [x, .slice none 0 0] = some (aH key.length 0, [some ⟨i, o, key.length, false⟩, some ⟨st.length, 0, 0, false⟩]) := by simp only [sl2, picks, hx.pick, h3]; rfl
  refine owe_bare hbr hpk rfl ?_
  rw [gcall_bare hbr]
  have := gcall0_look (e := st.length) (ks := sl2) (spec := F) (st := st ++ [some ⟨[], .rw⟩]) (sst := sH key []) (news := []) (news' := []) (res := r) (res' := r)
    hpk ((bys_more hx _).small ((nil_bys st).small smalls_nil)) (by simp [disjFps, disj1]) (by simpa using hF) (by simp) rfl (sub_plain hr)
  simpa using this
theorem owe_nil_nil {F : List Value → St → Option (Value × St)} {st : St} {r : Value} {len : Nat} (hF : F (aH 0 0) (sH [] []) = some (r, sH [] [])) (hr : plain r = true) (hl : st.length = len) :
    effI (callE sl2 F [.slice none 0 0, .slice none 0 0] st) (greads sl2 [.slice none 0 0, .slice none 0 0]) len = some (r, st ++ [some ⟨[], .rw⟩], .eff [] len) := by
  subst hl
  have hbr : bares sl2 [.slice none 0 0, .slice none 0 0] = true := rfl
  have hpk : picks st.length sl2 0 [.slice none 0 0, .slice none 0 0] = some (aH 0 0, [some ⟨st.length, 0, 0, false⟩, some ⟨st.length, 0, 0, false⟩]) := rfl
  refine owe_bare hbr hpk rfl ?_
  rw [gcall_bare hbr]
  have := gcall0_look (e := st.length) (ks := sl2) (spec := F) (st := st ++ [some ⟨[], .rw⟩]) (sst := sH [] []) (news := []) (news' := []) (res := r) (res' := r)
    hpk ((nil_bys st).small ((nil_bys st).small smalls_nil)) (by simp [disjFps, disj1]) (by simpa using hF) (by simp) rfl (sub_plain hr)
  simpa using this
theorem h2_cells {F : List Int → List Int → V8} {key b : List Int} (hk : key.length ≤ 140737488355264) (hb : b.length ≤ 140737488355264) : h2Spec F (aH key.length b.length) (sH key b) = some (ag (F key b), sH key b) := by
  simp only [h2Spec, aH, slR, sH, byR, u8s_map]
  rw [if_pos ⟨trivial, trivial, trivial, trivial, hk, hb⟩]
theorem owe_expandBadNil {st : St} {len : Nat} {k : List Int} {n : Int} (hk : k.length = 32) (hn : n < 0 ∨ 8160 < n) (hl : st.length = len) :
    effI (callE xKs (expandSpec wordO) (xArgs k (.slice none 0 0) n) st) (greads xKs (xArgs k (.slice none 0 0) n)) len = some (.tuple #[.slice none 0 0, .int .i64 (exErr n)], st ++ [some ⟨[], .rw⟩], .eff [] len) := by
  subst hl
  have hbr : bares xKs (xArgs k (.slice none 0 0) n) = true := rfl
  have h1 : pick1 st.length 0 .val (kag k) = some (kag k, none) := by simp only [pick1, plain_kag, if_true]
  have h2 : pick1 st.length (0 + 1 + 1) .val (.int .i64 n) = some (.int .i64 n, none) := rfl
  have h3 : pick1 st.length (0 + 1) (.sl false) (.slice none 0 0) = some (slR 1 0, some ⟨st.length, 0, 0, false⟩) := rfl
  have hpk : picks st.length xKs 0 (xArgs k (.slice none 0 0) n) = some (xArgs k (slR 1 0) n, [none, some ⟨st.length, 0, 0, false⟩, none]) := by simp only [xKs, xArgs, picks, h1, h2, h3]
  refine owe_bare hbr hpk rfl ?_
  rw [gcall_bare hbr]
  have := gcall0_look (e := st.length) (ks := xKs) (spec := expandSpec wordO) (st := st ++ [some ⟨[], .rw⟩]) (sst := sE []) (news := []) (news' := []) (res := .tuple #[.slice none 0 0, .int .i64 (exErr n)]) (res' := .tuple #[.slice none 0 0, .int .i64 (exErr n)])
    hpk (smalls_none ((nil_bys st).small (smalls_none smalls_nil))) (by simp [disjFps, disj1]) (by rw [xArgs, show slR 1 0 = slR 1 ([] : List Int).length from rfl, expandSpec_cells hk (by simp), expRes_bad hn]; rfl) (by simp) rfl rfl
  simpa using this
/-! KdfInner, as something that is called -/
def innerSpec (args : List Value) (st : St) : Option (Value × St) :=
  match args, st with
  | [.slice (some ⟨0, 0, none⟩) m d, .slice (some ⟨1, 0, none⟩) m' d'], [some ⟨xs, .ro⟩, some ⟨ys, .ro⟩] => match u8s xs, u8s ys with
    | some key, some b => if m = key.length ∧ d = key.length ∧ m' = b.length ∧ d' = b.length ∧ key.length ≤ 140737488351232 ∧ b.length ≤ 140737488351232 then some (.bool true, sH key b) else none
    | _, _ => none
  | _, _ => none
noncomputable def innerE : Entry := ⟨21, [.sl false, .sl false], innerSpec⟩
theorem innerE_ok : EntryOk Try.prog innerE := by
  refine ⟨fun a s r s' hh => ?_, body_of Try.func21 (by kernel_rfl) (by kernel_rfl)⟩
  simp only [innerE] at hh
  unfold innerSpec at hh
  split at hh
  · split at hh
    · rename_i key b hk hb
      split at hh
      · rename_i hc
        obtain ⟨rfl, rfl, rfl, rfl, h5, h6⟩ := hc
        cases hh
        rw [u8s_spec hk, u8s_spec hb]
        exact inner_ac h5 h6
      · cases hh
    · cases hh
  · cases hh
theorem inner_cells {key b : List Int} (hk : key.length ≤ 140737488351232) (hb : b.length ≤ 140737488351232) : innerSpec (aH key.length b.length) (sH key b) = some (.bool true, sH key b) := by
  simp only [innerSpec, aH, slR, sH, byR, u8s_map]
  rw [if_pos ⟨trivial, trivial, trivial, trivial, hk, hb⟩]
theorem owe_inner {st : St} {x y : Value} {i o j p len : Nat} {key b : List Int} (hx : Bys st x i o key) (hy : Bys st y j p b) (hk : key.length ≤ 140737488351232) (hb : b.length ≤ 140737488351232) (hl : st.length = len) :
    effI (callE sl2 innerSpec [x, y] st) (greads sl2 [x, y]) len = some (.bool true, st, .load [i, j]) := by
  have hbr : bares sl2 [x, y] = false := by simp only [sl2, bares, hx.bare, hy.bare, Bool.or_false]
  have hpk : picks 0 sl2 0 [x, y] = some (aH key.length b.length, [some ⟨i, o, key.length, false⟩, some ⟨j, p, b.length, false⟩]) := by simp only [sl2, picks, hx.pick, hy.pick]; rfl
  exact owe_see hbr hpk rfl (gcall_see (sst := sH key b) hbr hpk (hx.small (hy.small smalls_nil)) (by simp [disjFps, disj1]) (inner_cells hk hb) (by simp) rfl) hl

/-! KdfKnown -/
/-- (What Expand tells is kept out of the evaluator's sight: it would be run through.) -/
abbrev Spc := List Value → St → Option (Value × St)
noncomputable def kkEs (F : Spc) : List Entry := [⟨18, xKs, F⟩, hmacE, kworksE, innerE]
theorem kkEs_ok : ∀ e ∈ kkEs (expandSpec wordO), EntryOk Try.prog e := esc expandE_ok (esc hmacE_ok (esc kworksE_ok (es1 innerE_ok)))
def neAg (xs ys : List Value) : Option Value := match (match eqInts xs ys with | some b => some b | none => none) with | some b => some (.bool !b) | none => none
def nilR : Option Reg := some ⟨[], .rw⟩
def Z0 : Nat → Int := fun _ => 0
def exV2 (e : Int) : Value := .tuple #[.slice none 0 0, .int .i64 e]
def hKk (B : List Int) (g c : V8) : Hint := ⟨fun r i => match r, i with
  | 2, 1 => some (.eff (.tuple #[sl0 2 0 0, .int .i64 0]) (fun s => s ++ [nilR] ++ [byR [] (.row 1)]) [])
  | 3, 1 => some (.eff (exV2 2) (fun s => s ++ [nilR]) [])
  | 4, 1 => some (.eff (exV2 5) (fun s => s ++ [nilR]) [])
  | 5, 2 => some (.eff (.tuple #[sl0 6 8160 8160, .int .i64 0]) (fun s => s ++ [byR B (.row 1)]) [])
  | 6, 1 => some (.eff (exV2 2) (fun s => s ++ [nilR]) [])
  | 8, 2 => some (.eff (ag g) (fun s => s ++ [nilR]) [])
  | 8, 3 => some (.eff (ag g) (fun s => s ++ [nilR]) [])
  | 8, 4 => some (.pure (.bool true))
  | 8, 7 => some (.eff (ag c) (fun s => s ++ [nilR]) [])
  | 8, 8 => some (.eff (ag g) (fun s => s ++ [nilR]) [])
  | 8, 9 => some (.pure (.bool true))
  | 9, 39 => some (.read (.bool true) [8, 13])
  | 9, 44 => some (.eff (.bool true) (fun s => s ++ [nilR]) [])
  | 9, 50 => some (.read (.bool true) [8, 15])
  | _, _ => none, fun _ => none⟩
def z65 : List Int := List.replicate 65 0
def sK1 : St := [zR]
def sK2 : St := [zR, nilR, byR [] (.row 1)]
def sK3 : St := sK2 ++ [nilR]
def sK4 : St := sK3 ++ [nilR]
def sK5 : St := sK4 ++ [byR [1] (.row 1)]
def sK6 (B : List Int) : St := sK5 ++ [byR B (.row 1)]
def sK7 (B : List Int) : St := sK6 B ++ [nilR]
def sK8 (B : List Int) : St := sK7 B ++ [byR z65 (.row 1)]
def sK9 (B : List Int) : St := sK8 B ++ [nilR]
def sK10 (B : List Int) : St := sK9 B ++ [nilR]
def sK11 (B : List Int) : St := sK10 B ++ [nilR]
def sK12 (B : List Int) : St := sK11 B ++ [nilR]
def sK13 (B : List Int) : St := sK12 B ++ [byR [3] (.row 1)]
def sK14 (B : List Int) : St := sK13 B ++ [nilR]
def sK15 (B : List Int) : St := sK14 B ++ [byR [3] (.row 1)]
def nv : Value := .slice none 0 0
def zA (y : Value) (n : Int) : List Value := xArgs (k32 Z0) y n
theorem kkR (F : Spc) (B : List Int) (g c : V8) : goNH (kkEs F) (hKk B g c) 0 Try.f8 [] [] = some (.bool true, []) := by kernel_rfl
theorem kkP (F : Spc) (B : List Int) (g c : V8) : owes (kkEs F) (hKk B g c) 0 Try.f8 [] [] =
    (((none : Option Value) = none ∧ effI (callE xKs F (zA nv ((0 : Nat) : Int)) sK1) (greads xKs (zA nv ((0 : Nat) : Int))) 1 = some (.tuple #[sl0 2 0 0, .int .i64 0], sK2, .eff [] 1)) ∧
     ((none : Option Value) = none ∧ effI (callE xKs F (zA nv (-1)) sK2) (greads xKs (zA nv (-1))) 3 = some (exV2 2, sK3, .eff [] 3)) ∧
     ((none : Option Value) = none ∧ effI (callE xKs F (zA nv 8161) sK3) (greads xKs (zA nv 8161)) 4 = some (exV2 5, sK4, .eff [] 4)) ∧
     ((none : Option Value) = none ∧ effI (callE xKs F (zA (rowR 5 1) ((8160 : Nat) : Int)) sK5) (greads xKs (zA (rowR 5 1) ((8160 : Nat) : Int))) 6 = some (.tuple #[sl0 6 8160 8160, .int .i64 0], sK6 B, .eff [] 6)) ∧
     ((none : Option Value) = none ∧ effI (callE xKs F (zA nv (-9223372036854775808)) (sK6 B)) (greads xKs (zA nv (-9223372036854775808))) 7 = some (exV2 2, sK7 B, .eff [] 7)) ∧
     ((none : Option Value) = none ∧ effI (callE sl2 (h2Spec (hmacV wordO)) [sl0 8 64 65, nv] (sK8 B)) (greads sl2 [sl0 8 64 65, nv]) 9 = some (ag g, sK9 B, .eff [] 9)) ∧
     ((none : Option Value) = none ∧ effI (callE sl2 (h2Spec (hmacV wordO)) [nv, nv] (sK9 B)) (greads sl2 [nv, nv]) 10 = some (ag g, sK10 B, .eff [] 10)) ∧
     eqAg (agL g) (agL g) = some (.bool true) ∧
     ((none : Option Value) = none ∧ effI (callE sl2 (h2Spec (hmacV wordO)) [rowR 8 65, nv] (sK10 B)) (greads sl2 [rowR 8 65, nv]) 11 = some (ag c, sK11 B, .eff [] 11)) ∧
     ((none : Option Value) = none ∧ effI (callE sl2 (h2Spec (hmacV wordO)) [nv, nv] (sK11 B)) (greads sl2 [nv, nv]) 12 = some (ag g, sK12 B, .eff [] 12)) ∧
     neAg (agL c) (agL g) = some (.bool true) ∧
     ((none : Option Value) = none ∧ effI (callE sl2 innerSpec [rowR 8 65, rowR 13 1] (sK13 B)) (greads sl2 [rowR 8 65, rowR 13 1]) 14 = some (.bool true, sK13 B, .load [8, 13])) ∧
     ((none : Option Value) = none ∧ effI (callE sl2 innerSpec [sl0 8 64 65, nv] (sK13 B)) (greads sl2 [sl0 8 64 65, nv]) 14 = some (.bool true, sK14 B, .eff [] 14)) ∧
     ((none : Option Value) = none ∧ effI (callE sl2 innerSpec [sl0 8 63 65, rowR 15 1] (sK15 B)) (greads sl2 [sl0 8 63 65, rowR 15 1]) 16 = some (.bool true, sK15 B, .load [8, 15])) ∧ True) := by kernel_rfl
theorem hm_unlike : neAg (agL (hmacV wordO (List.replicate 65 0) [])) (agL (hmacV wordO [] [])) = some (.bool true) := by kernel_rfl
theorem hm_zeros (n : Nat) (h : n ≤ 64) : hmacV wordO (List.replicate n 0) [] = hmacV wordO [] [] := by
  have e1 : keyF wordO (List.replicate n 0) = List.replicate n 0 := by unfold keyF; rw [if_neg (by simp; omega)]
  have e2 : keyF wordO [] = [] := by unfold keyF; rw [if_neg (by simp)]
  unfold hmacV padL
  rw [e1, e2, padB_zeros, padB_zeros]
theorem lawKnown : AC Try.prog 8 [] [] (.bool true) [] := by
  refine runNH_ok kkEs_ok Try.func8 (by kernel_rfl) ?_ (kkR (expandSpec wordO) (outT wordO (k32 Z0) [1] 255) (hmacV wordO [] []) (hmacV wordO (List.replicate 65 0) [])) rfl rfl rfl
  rw [kkP]
  have hN : nblk 8160 = 255 := by decide
  have h65 : ∀ {st : St}, st[8]? = some (byR z65 (.row 1)) → Bys st (rowR 8 65) 8 0 (List.replicate 65 0) := fun h => row_bytes h rfl
  have hcut : ∀ {st : St} {n : Nat}, st[8]? = some (byR z65 (.row 1)) → n ≤ 65 → Bys st (sl0 8 n 65) 8 0 (List.replicate n 0) := fun {st n} h hn => by
    have := Bys.part (st := st) (i := 8) (off := 0) (n := n) (c := 65) h (by simp [z65]; omega) hn
    rw [List.drop_zero, z65, List.take_replicate, Nat.min_eq_left hn] at this
    exact this
  generalize hB : outT wordO (k32 Z0) [1] 255 = B
  refine ⟨⟨rfl, ?_⟩, ⟨rfl, owe_expandBadNil (k32_length Z0) (.inl (by decide)) rfl⟩, ⟨rfl, owe_expandBadNil (k32_length Z0) (.inr (by decide)) rfl⟩, ⟨rfl, ?_⟩, ⟨rfl, owe_expandBadNil (k32_length Z0) (.inl (by decide)) rfl⟩, ⟨rfl, ?_⟩, ⟨rfl, ?_⟩, eqAg_g _, ⟨rfl, ?_⟩, ⟨rfl, ?_⟩, hm_unlike, ⟨rfl, ?_⟩, ⟨rfl, ?_⟩, ⟨rfl, ?_⟩, trivial⟩
  · exact owe_expandNil (st := sK1) (z := 0) (len := 1) (k32_length Z0) (by decide) rfl
  · have := owe_expand (st := sK5) (z := 8160) (len := 6) (k32_length Z0) (row_bytes (i := 5) (kd := .row 1) (l := [1]) rfl rfl) (by decide) (by decide) rfl
    rw [hN, hB] at this
    exact this
  · have := owe_x_nil (F := h2Spec (hmacV wordO)) (st := sK8 B) (len := 9) (hcut (n := 64) rfl (by decide)) (h2_cells (key := List.replicate 64 0) (b := []) (by simp) (by simp)) (plain_ag _) rfl
    rw [hm_zeros 64 (by decide)] at this
    exact this
  · exact owe_nil_nil (F := h2Spec (hmacV wordO)) (st := sK9 B) (len := 10) (h2_cells (key := []) (b := []) (by simp) (by simp)) (plain_ag _) rfl
  · exact owe_x_nil (F := h2Spec (hmacV wordO)) (st := sK10 B) (len := 11) (h65 rfl) (h2_cells (key := List.replicate 65 0) (b := []) (by simp) (by simp)) (plain_ag _) rfl
  · exact owe_nil_nil (F := h2Spec (hmacV wordO)) (st := sK11 B) (len := 12) (h2_cells (key := []) (b := []) (by simp) (by simp)) (plain_ag _) rfl
  · exact owe_inner (st := sK13 B) (len := 14) (h65 rfl) (row_bytes (i := 13) (kd := .row 1) (l := [3]) rfl rfl) (by simp) (by simp) rfl
  · exact owe_x_nil (F := innerSpec) (st := sK13 B) (len := 14) (hcut (n := 64) rfl (by decide)) (inner_cells (key := List.replicate 64 0) (b := []) (by simp) (by simp)) rfl rfl
  · exact owe_inner (st := sK15 B) (len := 16) (hcut (n := 63) rfl (by decide)) (row_bytes (i := 15) (kd := .row 1) (l := [3]) rfl rfl) (by simp) (by simp) rfl
end Go.Proofs.Ytmpcmefokjlknaa.Kd
