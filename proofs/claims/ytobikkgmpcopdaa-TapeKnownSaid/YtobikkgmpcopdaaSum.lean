/- Digests of 32 bytes, the program's and the document's: what calls of them come to; equality of digests; bytes. Without conditions. -/
import Derived.Test.YtobikkgmpcopdaaBlF
namespace Go.Proofs.Ytobikkgmpcopdaa.Kd
open Am Run IntWalk Bl Byt

/-- A digest of 32 bytes, without a key: its numbers. -/
def dgv (w : Int → Int → Int → Int → Int) (x : List Int) : V8 := Dn w (h0 32 0) x
theorem bsum_dgv {b : List Int} (hb : b.length ≤ 2 ^ 59) : digL 32 [] b = out8 (dgv wordO b) := by
  rw [digL_D (by simp) hb]; rfl
theorem owe_dg {st : St} {x : Value} {i o len : Nat} {b : List Int} (hx : Bys st x i o b) (hb : b.length ≤ 2 ^ 47) (hl : st.length = len) :
    effI (callE bsumE.ks bsumE.spec [x] st) (greads bsumE.ks [x]) len = some (.agg ⟨(out8 (dgv wordO b)).map (.int .u8)⟩, st, .load [i]) := by
  rw [owe_bsum hx hb hl, bsum_dgv (by omega)]
theorem source_bys {st : St} {v : Value} {i off : Nat} {l : List Int} (h : Bys st v i off l) : source st 1 v = some (l.length, l.map (.int .u8)) := by
  obtain ⟨a, c, cs, kd, rfl, hb, hc, hs, hn, hl⟩ := h.ex
  have := rd_u8 (off := off) (n := l.length * 1) hs (by omega)
  rw [Nat.mul_one] at this
  simp only [source, hb, Nat.mul_one, this, hl]
def zR : Option Reg := some ⟨List.replicate 32 (.int .u8 0), .rw⟩


abbrev WD := Int → Int → Int → Int → Int
def ag (g : V8) : Value := .agg ⟨(out8 g).map (.int .u8)⟩
theorem plain_ag (g : V8) : plain (ag g) = true := plain_u8 _
/-! the document's Sum -/
theorem digR_dgv (b : List Int) : digR 32 [] b = out8 (dgv wordA b) := by
  show (out8 (dgv wordA b)).take 32 = out8 (dgv wordA b)
  exact List.take_of_length_le (by rw [out8_length]; decide)
theorem owe_rofNil {st : St} {y : Value} {j p len : Nat} {b : List Int} (hy : Bys st y j p b) (hb : b.length ≤ 140737488355264) (hl : st.length = len) :
    effI (callE rofE.ks rofE.spec [.int .i64 32, .slice none 0 0, y] st) (greads rofE.ks [.int .i64 32, .slice none 0 0, y]) len =
      some (.tuple #[rowR (len + 1) 32, .int .i64 0], st ++ [some ⟨[], .rw⟩] ++ [byR (out8 (dgv wordA b)) (.row 1)], .eff [] len) := by
  subst hl
  obtain ⟨a, c, cs, kd, rfl, hbs, hc, hst, hn, hcut⟩ := hy.ex
  have hbr : bares rofE.ks [.int .i64 32, .slice none 0 0, .slice a b.length c] = true := rfl
  have hy' : Bys (st ++ [some ⟨[], .rw⟩]) (.slice a b.length c) j p b := ⟨a, c, cs, kd, rfl, hbs, hc, by rw [List.getElem?_append_left (List.getElem?_eq_some_iff.1 hst).1]; exact hst, hn, hcut⟩
  have hx' : Bys (st ++ [some ⟨[], .rw⟩]) (slR st.length 0) st.length 0 [] := Bys.all (l := []) (kd := .rw) (by simp [byR])
  have hpk : picks st.length rofE.ks 0 [.int .i64 32, .slice none 0 0, .slice a b.length c] = some (argsO 32 0 b.length, [none, some ⟨st.length, 0, 0, false⟩, some ⟨j, p, b.length, false⟩]) := by simp only [rofE, picks, hy.pick]; rfl
  refine owe_bare hbr hpk rfl ?_
  rw [gcall_bare hbr]
  have := gcall0_look (e := st.length) (ks := rofE.ks) (spec := rofE.spec) (st := st ++ [some ⟨[], .rw⟩]) (sst := sO [] b) (news := [byR (digR 32 [] b) (.row 1)]) (news' := [byR (digR 32 [] b) (.row 1)]) (res := .tuple #[rowR 3 32, .int .i64 0]) (res' := .tuple #[rowR (st.length + 1) 32, .int .i64 0])
    hpk (smalls_none (hx'.small (hy'.small smalls_nil))) (by simp [disjFps, disj1]) (by
      simp only [rofE]
      rw [show argsO 32 0 b.length = argsO 32 ([] : List Int).length b.length from rfl, rofSpec_cells hb, if_neg (show ¬ badN 32 ([] : List Int).length by decide)]
      rfl) (by simp) (mapO_plainReg (by simp only [List.all_cons, List.all_nil, byR, plainReg, plain_u8, Bool.and_true])) (by
      rw [show (st ++ [some (⟨[], .rw⟩ : Reg)]).length = st.length + 1 by simp]
      rfl)
  rw [digR_dgv] at this
  exact this
def hRs (g : V8) : Hint := ⟨fun r i => match r, i with
  | 2, 1 => some (.eff (.tuple #[rowR 4 32, .int .i64 0]) (fun s => s ++ [some ⟨[], .rw⟩] ++ [byR (out8 g) (.row 1)]) [])
  | _, _ => none, fun _ => none⟩
theorem rsumR (b : List Int) (n : Nat) (g : V8) : goNH [rofE] (hRs g) 33 Try.f24 [slR 0 n] [byR b .ro] = some (ag g, [byR b .ro]) := by kernel_rfl
theorem rsumP (b : List Int) (n : Nat) (g : V8) : owes [rofE] (hRs g) 33 Try.f24 [slR 0 n] [byR b .ro] =
    (((none : Option Value) = none ∧ effI (callE rofE.ks rofE.spec [.int .i64 32, .slice none 0 0, slR 0 n] [byR b .ro, zR, zR]) (greads rofE.ks [.int .i64 32, .slice none 0 0, slR 0 n]) 3 = some (.tuple #[rowR 4 32, .int .i64 0], [byR b .ro, zR, zR] ++ [some ⟨[], .rw⟩] ++ [byR (out8 g) (.row 1)], .eff [] 3)) ∧ True) := by kernel_rfl
theorem rsum_ac {b : List Int} (hb : b.length ≤ 140737488355264) : AC Try.prog 24 [slR 0 b.length] [byR b .ro] (ag (dgv wordA b)) [byR b .ro] := by
  refine runNH_ok (es1 rofE_ok) Try.func24 (by kernel_rfl) ?_ (rsumR b _ _) rfl ?_ (plain_ag _)
  · rw [rsumP]
    exact ⟨⟨rfl, owe_rofNil (Bys.all rfl) hb rfl⟩, trivial⟩
  · simp only [List.all_cons, List.all_nil, byR, plain_u8, plainReg, Bool.and_true]
def rsumSpec (args : List Value) (st : St) : Option (Value × St) :=
  match args, st with
  | [.slice (some ⟨0, 0, none⟩) n d], [some ⟨xs, .ro⟩] => match u8s xs with
    | some b => if n = b.length ∧ d = b.length ∧ b.length ≤ 140737488355264 then some (ag (dgv wordA b), [byR b .ro]) else none
    | none => none
  | _, _ => none
noncomputable def rsumE : Entry := ⟨24, [.sl false], rsumSpec⟩
theorem rsumE_ok : EntryOk Try.prog rsumE := by
  refine ⟨fun a s r s' h => ?_, body_of Try.func24 (by kernel_rfl) (by kernel_rfl)⟩
  simp only [rsumE] at h
  unfold rsumSpec at h
  split at h
  · split at h
    · rename_i b hb
      split at h
      · rename_i hc
        obtain ⟨rfl, rfl, h5⟩ := hc
        cases h
        rw [u8s_spec hb]
        exact rsum_ac h5
      · cases h
    · cases h
  · cases h
theorem owe_rsum {st : St} {x : Value} {i o len : Nat} {b : List Int} (hx : Bys st x i o b) (hb : b.length ≤ 140737488355264) (hl : st.length = len) :
    effI (callE rsumE.ks rsumE.spec [x] st) (greads rsumE.ks [x]) len = some (ag (dgv wordA b), st, .load [i]) := by
  have hbr : bares rsumE.ks [x] = false := by simp only [rsumE, bares, hx.bare, Bool.or_false]
  have hpk : picks 0 rsumE.ks 0 [x] = some ([slR 0 b.length], [some ⟨i, o, b.length, false⟩]) := by simp only [rsumE, picks, hx.pick]
  refine owe_see hbr hpk rfl (gcall_see (sst := [byR b .ro]) hbr hpk (hx.small smalls_nil) (by simp [disjFps]) ?_ (by simp) (plain_ag _)) hl
  simp only [rsumE, rsumSpec, slR, byR, u8s_map]
  rw [if_pos ⟨trivial, trivial, hb⟩]

theorem eqInts_self (l : List Int) : eqInts (l.map (.int .u8)) (l.map (.int .u8)) = some true := by
  induction l with
  | nil => rfl
  | cons a r ih => simp only [List.map_cons, eqInts, if_true, ih, beq_self_eq_true, Bool.and_self]
def eqAg (xs ys : List Value) : Option Value := match (match eqInts xs ys with | some b => some b | none => none) with | some b => some (.bool b) | none => none
theorem eqAg_self (l : List Int) : eqAg (l.map (.int .u8)) (l.map (.int .u8)) = some (.bool true) := by unfold eqAg; rw [eqInts_self]
theorem eql_ag0 (g g' : V8) : abin T .eql 22 (ag g) (ag g') = eqAg ((out8 g).map (.int .u8)) ((out8 g').map (.int .u8)) := by kernel_rfl
theorem eql_ag (g : V8) : abin T .eql 22 (ag g) (ag g) = some (.bool true) := by rw [eql_ag0, eqAg_self]
theorem u8_B8 (x : Int) : B8 (IntKind.u8.wrap x) := by
  unfold B8
  have : IntKind.u8.wrap x = x % 256 := by rfl
  rw [this]; omega
theorem out8_B8 (g : V8) : ∀ y ∈ out8 g, B8 y := by
  intro y hy
  unfold out8 at hy
  obtain ⟨w, _, h⟩ := List.mem_flatMap.1 hy
  simp only [bytes4, List.mem_cons, List.not_mem_nil, or_false] at h
  rcases h with rfl | rfl | rfl | rfl <;> exact u8_B8 _
theorem dgv_B8 {x : List Int} (hx : ∀ y ∈ x, B8 y) : dgv wordO x = dgv wordA x := by
  unfold dgv Dn
  rw [blks_B8 hx, words_B8 fun i => getD_B8 hx _]
def k32 (Z : Nat → Int) : List Int := (List.range 32).map Z
theorem k32_length (Z : Nat → Int) : (k32 Z).length = 32 := rfl
theorem app_one {st : St} {i n j : Nat} {a r : List Int} {k : Int} (h : st[i]? = some (byR a (.row 1))) (ha : a.length = n) (h1 : st[j]? = some (byR [k] (.row 1))) (hr : a ++ [k] = r) (hl : n + 1 ≤ 140737488355328) :
    appendCore st 1 1 (.int .u8 0) (rowR i n) (source st 1 (rowR j 1)) = some (rowR st.length (n + 1), st.set i none ++ [byR r (.row 1)], [i]) := by
  subst hr ha
  rw [show rowR j 1 = rowR j [k].length from rfl, source_bys (Bys.row h1)]
  exact append_row h hl
end Go.Proofs.Ytobikkgmpcopdaa.Kd
