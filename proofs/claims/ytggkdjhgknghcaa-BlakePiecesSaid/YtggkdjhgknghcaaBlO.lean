/- Of of blake, and Sum without a key: what they come to. Without conditions. -/
import Derived.Test.YtggkdjhgknghcaaBlS
namespace Go.Proofs.Ytggkdjhgknghcaa.Bl
open Am Run IntWalk

/-- A hash without bytes waits for some. -/
theorem newH_waits (size : Int) (key : List Int) : Waits (newH size key) := by
  unfold newH
  split
  · exact ⟨0, rfl, by omega⟩
  · exact ⟨64, rfl, by omega⟩
theorem newH_size (size : Int) (key : List Int) : (newH size key).size = size := by
  unfold newH; split <;> rfl
theorem absorbF_size : ∀ (f : Nat) (H : HS) (l : List Int), (absorbF f H l).size = H.size := by
  intro f
  induction f with
  | zero => intro H l; rfl
  | succ f ih =>
    intro H l
    unfold absorbF
    split
    · rfl
    · split <;> rw [ih] <;> rfl
theorem absorb_size (H : HS) (l : List Int) : (absorb H l).size = H.size := absorbF_size _ _ _
theorem absorbF_waits : ∀ (f : Nat) (H : HS) (l : List Int), Waits H → Waits (absorbF f H l) := by
  intro f
  induction f with
  | zero => intro H l h; exact h
  | succ f ih =>
    intro H l h
    unfold absorbF
    split
    · exact h
    · split
      · exact ih _ _ ⟨0 + min l.length 64, rfl, by omega⟩
      · obtain ⟨n, hn, h64⟩ := h
        refine ih _ _ ⟨H.n.toNat + min l.length (64 - H.n.toNat), rfl, by omega⟩
theorem absorb_waits {H : HS} (h : Waits H) (l : List Int) : Waits (absorb H l) := absorbF_waits _ _ _ h
/-- The 32 bytes of a digest of a size, a key, bytes. -/
def digL (size : Int) (key b : List Int) : List Int := sumL (absorb (newH size key) b)
theorem out8_length (h : V8) : (out8 h).length = 32 := rfl
theorem digL_length (size : Int) (key b : List Int) : (digL size key b).length = 32 := rfl

/-! Of -/
noncomputable def ofEs : List Entry := [newE, writeE, hsumE]
theorem ofEs_ok : ∀ e ∈ ofEs, EntryOk Try.prog e := esc newE_ok (esc writeE_ok (es1 hsumE_ok))
def hO0 : Hint := ⟨fun q i => match q, i with
  | 1, 2 => some (.read (.tuple #[.pointer none, .int .i64 2]) [1])
  | _, _ => none, fun _ => none⟩
def hO (z : Nat) (H H' : HS) (d : List Int) : Hint := ⟨fun q i => match q, i with
  | 1, 2 => some (.eff (.tuple #[pR 3, .int .i64 0]) (fun s => s ++ [hR H]) [])
  | 4, 2 => some (.eff (.tuple #[]) (fun s => s.set 3 (hR H')) [3])
  | 5, 1 => some (.eff (.slice (some ⟨4, 0, none⟩) z z) (fun s => s ++ [byR d .rw]) [])
  | _, _ => none, fun _ => none⟩
def argsO (size : Int) (p q : Nat) : List Value := [.int .i64 size, slR 1 p, slR 2 q]
def sO (key b : List Int) : St := [none, byR key .ro, byR b .ro]
theorem ofR0 (size : Int) (key b : List Int) (p q : Nat) : goNH ofEs hO0 0 Try.f11 (argsO size p q) (sO key b) = some (.tuple #[.slice none 0 0, .int .i64 2], sO key b) := by kernel_rfl
theorem ofP0 (size : Int) (key b : List Int) (p q : Nat) : owes ofEs hO0 0 Try.f11 (argsO size p q) (sO key b) =
    (((none : Option Value) = none ∧ effI (callE newE.ks newE.spec [.int .i64 size, slR 1 p] (sO key b)) (greads newE.ks [.int .i64 size, slR 1 p]) 3 = some (.tuple #[.pointer none, .int .i64 2], sO key b, .load [1])) ∧ True) := by kernel_rfl
theorem ofR (size : Int) (key b d : List Int) (H H' : HS) (p q z : Nat) : goFH ofEs (hO z H H' d) 0 Try.f11 (argsO size p q) (sO key b) = some (.tuple #[.slice (some ⟨4, 0, none⟩) z z, .int .i64 0], sO key b ++ [hR H'] ++ [byR d .rw]) := by kernel_rfl
theorem ofP (size : Int) (key b d : List Int) (H H' : HS) (p q z : Nat) : owes ofEs (hO z H H' d) 0 Try.f11 (argsO size p q) (sO key b) =
    (((none : Option Value) = none ∧ effI (callE newE.ks newE.spec [.int .i64 size, slR 1 p] (sO key b)) (greads newE.ks [.int .i64 size, slR 1 p]) 3 = some (.tuple #[pR 3, .int .i64 0], sO key b ++ [hR H], .eff [] 3)) ∧
     ((none : Option Value) = none ∧ effI (callE writeE.ks writeE.spec [pR 3, slR 2 q] (sO key b ++ [hR H])) (greads writeE.ks [pR 3, slR 2 q]) 4 = some (.tuple #[], sO key b ++ [hR H'], .eff [3] 4)) ∧
     ((none : Option Value) = none ∧ effI (callE hsumE.ks hsumE.spec [pR 3] (sO key b ++ [hR H'])) (greads hsumE.ks [pR 3]) 4 = some (.slice (some ⟨4, 0, none⟩) z z, sO key b ++ [hR H'] ++ [byR d .rw], .eff [] 4)) ∧ True) := by kernel_rfl
theorem of_bad {size : Int} {key b : List Int} (h : badN size key.length) : AC Try.prog 11 (argsO size key.length b.length) (sO key b) (.tuple #[.slice none 0 0, .int .i64 2]) (sO key b) := by
  refine runNH_ok ofEs_ok Try.func11 (by kernel_rfl) ?_ (ofR0 size key b _ _) rfl ?_ rfl
  · rw [ofP0]
    exact ⟨⟨rfl, owe_newBad (Bys.all rfl) h rfl⟩, trivial⟩
  · simp only [sO, List.all_cons, List.all_nil, byR, plain_u8, plainReg, Bool.and_true, Bool.and_self]
theorem of_fine {size : Int} {key b : List Int} (h : ¬ badN size key.length) (hb : b.length ≤ 2 ^ 47) : AC Try.prog 11 (argsO size key.length b.length) (sO key b) (.tuple #[.slice (some ⟨3, 0, none⟩) size.toNat size.toNat, .int .i64 0]) (sO key b ++ [byR (digL size key b) .rw]) := by
  have hs := h
  unfold badN at hs
  have hz : size = (size.toNat : Int) := by omega
  have hO := runH_ok ofEs_ok Try.func11 (by kernel_rfl) (hint := hO size.toNat (newH size key) (absorb (newH size key) b) (digL size key b)) (n := 0) (a := argsO size key.length b.length) (s := sO key b) (by
    rw [ofP]
    refine ⟨⟨rfl, owe_new (Bys.all rfl) h rfl⟩, ⟨rfl, ?_⟩, ⟨rfl, ?_⟩, trivial⟩
    · exact owe_hwrite (p := 3) (H := newH size key) rfl (Bys.all (i := 2) rfl) (by decide) (by rw [newH_size]; omega) (newH_waits _ _) hb
    · exact owe_hsum (p := 3) (H := absorb (newH size key) b) rfl (by rw [absorb_size, newH_size]; exact hz) (by omega) (by omega) (absorb_waits (newH_waits _ _) b) rfl) (ofR size key b _ _ _ _ _ _)
  refine view_plain hO [0, 1, 2, 4] rfl rfl rfl ?_ rfl
  simp only [sO, List.cons_append, List.nil_append, List.all_cons, List.all_nil, byR, plain_u8, plainReg, Bool.and_true, Bool.and_self]
def ofSpec (args : List Value) (st : St) : Option (Value × St) :=
  match args, st with
  | [.int .i64 size, .slice (some ⟨1, 0, none⟩) m d, .slice (some ⟨2, 0, none⟩) m' d'], [none, some ⟨xs, .ro⟩, some ⟨ys, .ro⟩] => match u8s xs, u8s ys with
    | some key, some b => if m = key.length ∧ d = key.length ∧ m' = b.length ∧ d' = b.length ∧ b.length ≤ 2 ^ 47 then
        (if badN size key.length then some (.tuple #[.slice none 0 0, .int .i64 2], sO key b)
         else some (.tuple #[.slice (some ⟨3, 0, none⟩) size.toNat size.toNat, .int .i64 0], sO key b ++ [byR (digL size key b) .rw])) else none
    | _, _ => none
  | _, _ => none
noncomputable def ofE : Entry := ⟨11, [.val, .sl false, .sl false], ofSpec⟩
theorem ofE_ok : EntryOk Try.prog ofE := by
  refine ⟨fun a s r s' h => ?_, body_of Try.func11 (by kernel_rfl) (by kernel_rfl)⟩
  simp only [ofE] at h
  unfold ofSpec at h
  split at h
  · split at h
    · rename_i key b hk hb
      split at h
      · rename_i hc
        obtain ⟨rfl, rfl, rfl, rfl, h5⟩ := hc
        rw [u8s_spec hk, u8s_spec hb]
        split at h
        · rename_i hbad; cases h; exact of_bad hbad
        · rename_i hbad; cases h; exact of_fine hbad h5
      · cases h
    · cases h
  · cases h
theorem ofSpec_cells {size : Int} {key b : List Int} (hb : b.length ≤ 2 ^ 47) : ofSpec (argsO size key.length b.length) (sO key b) = if badN size key.length then some (.tuple #[.slice none 0 0, .int .i64 2], sO key b)
    else some (.tuple #[.slice (some ⟨3, 0, none⟩) size.toNat size.toNat, .int .i64 0], sO key b ++ [byR (digL size key b) .rw]) := by
  simp only [ofSpec, argsO, slR, sO, byR, u8s_map]
  rw [if_pos ⟨trivial, trivial, trivial, trivial, hb⟩]
theorem owe_of {st : St} {x y : Value} {i o j p len : Nat} {size : Int} {key b : List Int} (hx : Bys st x i o key) (hy : Bys st y j p b) (hb : b.length ≤ 2 ^ 47) (h : ¬ badN size key.length) (hl : st.length = len) :
    effI (callE ofE.ks ofE.spec [.int .i64 size, x, y] st) (greads ofE.ks [.int .i64 size, x, y]) len = some (.tuple #[.slice (some ⟨len, 0, none⟩) size.toNat size.toNat, .int .i64 0], st ++ [byR (digL size key b) .rw], .eff [] len) := by
  subst hl
  have hbr : bares ofE.ks [.int .i64 size, x, y] = false := by simp only [ofE, bares, hx.bare, hy.bare, Bool.or_false]; rfl
  have hpk : picks 0 ofE.ks 0 [.int .i64 size, x, y] = some (argsO size key.length b.length, [none, some ⟨i, o, key.length, false⟩, some ⟨j, p, b.length, false⟩]) := by simp only [ofE, picks, hx.pick, hy.pick]; rfl
  refine owe_look hbr hpk rfl (gcall_look (sst := sO key b) (news := [byR (digL size key b) .rw]) (res := .tuple #[.slice (some ⟨3, 0, none⟩) size.toNat size.toNat, .int .i64 0]) hbr hpk (smalls_none (hx.small (hy.small smalls_nil))) (by simp [disjFps, disj1]) ?_ (by simp) (mapO_plainReg ?_) rfl) (by simp)
  · simp only [ofE]
    rw [ofSpec_cells hb, if_neg h]
  · simp only [List.all_cons, List.all_nil, byR, plainReg, plain_u8, Bool.and_true]
theorem owe_ofBad {st : St} {x y : Value} {i o j p len : Nat} {size : Int} {key b : List Int} (hx : Bys st x i o key) (hy : Bys st y j p b) (hb : b.length ≤ 2 ^ 47) (h : badN size key.length) (hl : st.length = len) :
    effI (callE ofE.ks ofE.spec [.int .i64 size, x, y] st) (greads ofE.ks [.int .i64 size, x, y]) len = some (.tuple #[.slice none 0 0, .int .i64 2], st, .load [i, j]) := by
  have hbr : bares ofE.ks [.int .i64 size, x, y] = false := by simp only [ofE, bares, hx.bare, hy.bare, Bool.or_false]; rfl
  have hpk : picks 0 ofE.ks 0 [.int .i64 size, x, y] = some (argsO size key.length b.length, [none, some ⟨i, o, key.length, false⟩, some ⟨j, p, b.length, false⟩]) := by simp only [ofE, picks, hx.pick, hy.pick]; rfl
  refine owe_see hbr hpk rfl (gcall_see (sst := sO key b) hbr hpk (smalls_none (hx.small (hy.small smalls_nil))) (by simp [disjFps, disj1]) ?_ (by simp) rfl) hl
  simp only [ofE]
  rw [ofSpec_cells hb, if_pos h]
/-- Without a key: nil. -/
theorem owe_ofNil {st : St} {y : Value} {j p len : Nat} {size : Int} {b : List Int} (hy : Bys st y j p b) (hb : b.length ≤ 2 ^ 47) (h : ¬ badN size 0) (hl : st.length = len) :
    effI (callE ofE.ks ofE.spec [.int .i64 size, .slice none 0 0, y] st) (greads ofE.ks [.int .i64 size, .slice none 0 0, y]) len =
      some (.tuple #[.slice (some ⟨len + 1, 0, none⟩) size.toNat size.toNat, .int .i64 0], st ++ [some ⟨[], .rw⟩] ++ [byR (digL size [] b) .rw], .eff [] len) := by
  subst hl
  obtain ⟨a, c, cs, kd, rfl, hbs, hc, hst, hn, hcut⟩ := hy.ex
  have hbr : bares ofE.ks [.int .i64 size, .slice none 0 0, .slice a b.length c] = true := rfl
  have hy' : Bys (st ++ [some ⟨[], .rw⟩]) (.slice a b.length c) j p b := ⟨a, c, cs, kd, rfl, hbs, hc, by rw [List.getElem?_append_left (List.getElem?_eq_some_iff.1 hst).1]; exact hst, hn, hcut⟩
  have hx' : Bys (st ++ [some ⟨[], .rw⟩]) (slR st.length 0) st.length 0 [] := Bys.all (l := []) (kd := .rw) (by simp [byR])
  have hpk : picks st.length ofE.ks 0 [.int .i64 size, .slice none 0 0, .slice a b.length c] = some (argsO size 0 b.length, [none, some ⟨st.length, 0, 0, false⟩, some ⟨j, p, b.length, false⟩]) := by simp only [ofE, picks, hy.pick]; rfl
  refine owe_bare hbr hpk rfl ?_
  rw [gcall_bare hbr]
  have := gcall0_look (e := st.length) (ks := ofE.ks) (spec := ofE.spec) (st := st ++ [some ⟨[], .rw⟩]) (sst := sO [] b) (news := [byR (digL size [] b) .rw]) (news' := [byR (digL size [] b) .rw]) (res := .tuple #[.slice (some ⟨3, 0, none⟩) size.toNat size.toNat, .int .i64 0]) (res' := .tuple #[.slice (some ⟨st.length + 1, 0, none⟩) size.toNat size.toNat, .int .i64 0])
    hpk (smalls_none (hx'.small (hy'.small smalls_nil))) (by simp [disjFps, disj1]) (by
      simp only [ofE]
      rw [show argsO size 0 b.length = argsO size ([] : List Int).length b.length from rfl, ofSpec_cells hb, if_neg (show ¬ badN size ([] : List Int).length from h)]) (by simp) (mapO_plainReg (by simp only [List.all_cons, List.all_nil, byR, plainReg, plain_u8, Bool.and_true])) (by
      rw [show (st ++ [some (⟨[], .rw⟩ : Reg)]).length = st.length + 1 by simp]
      rfl)
  exact this

/-! Sum, without a key -/
def hSu (b d : List Int) : Hint := ⟨fun q i => match q, i with
  | 1, 1 => some (.eff (.tuple #[.slice (some ⟨3, 0, none⟩) 32 32, .int .i64 0]) (fun s => s ++ [some ⟨[], .rw⟩] ++ [byR d .rw]) [])
  | _, _ => none, fun _ => none⟩
def sSu (b : List Int) : St := [byR b .ro, some ⟨List.replicate 32 (.int .u8 0), .rw⟩]
theorem bsumR (b : List Int) (h : V8) (n : Nat) : goNH [ofE] (hSu b (out8 h)) 0 Try.f20 [slR 0 n] [byR b .ro] = some (.agg ⟨(out8 h).map (.int .u8)⟩, [byR b .ro]) := by kernel_rfl
theorem bsumP (b : List Int) (h : V8) (n : Nat) : owes [ofE] (hSu b (out8 h)) 0 Try.f20 [slR 0 n] [byR b .ro] =
    (((none : Option Value) = none ∧ effI (callE ofE.ks ofE.spec [.int .i64 32, .slice none 0 0, slR 0 n] (sSu b)) (greads ofE.ks [.int .i64 32, .slice none 0 0, slR 0 n]) 2 =
      some (.tuple #[.slice (some ⟨3, 0, none⟩) 32 32, .int .i64 0], sSu b ++ [some ⟨[], .rw⟩] ++ [byR (out8 h) .rw], .eff [] 2)) ∧ True) := by kernel_rfl
theorem bsum_ac {b : List Int} (hb : b.length ≤ 2 ^ 47) : AC Try.prog 20 [slR 0 b.length] [byR b .ro] (.agg ⟨(digL 32 [] b).map (.int .u8)⟩) [byR b .ro] := by
  refine runNH_ok (es1 ofE_ok) Try.func20 (by kernel_rfl) ?_ (bsumR b _ _) rfl ?_ (plain_u8 _)
  · rw [bsumP]
    refine ⟨⟨rfl, ?_⟩, trivial⟩
    exact owe_ofNil (st := sSu b) (size := 32) (b := b) (len := 2) (Bys.all (i := 0) rfl) hb (by decide) rfl
  · simp only [List.all_cons, List.all_nil, byR, plain_u8, plainReg, Bool.and_true]
def bsumSpec (args : List Value) (st : St) : Option (Value × St) :=
  match args, st with
  | [.slice (some ⟨0, 0, none⟩) n d], [some ⟨xs, .ro⟩] => match u8s xs with
    | some b => if n = b.length ∧ d = b.length ∧ b.length ≤ 2 ^ 47 then some (.agg ⟨(digL 32 [] b).map (.int .u8)⟩, [byR b .ro]) else none
    | none => none
  | _, _ => none
noncomputable def bsumE : Entry := ⟨20, [.sl false], bsumSpec⟩
theorem bsumE_ok : EntryOk Try.prog bsumE := by
  refine ⟨fun a s r s' h => ?_, body_of Try.func20 (by kernel_rfl) (by kernel_rfl)⟩
  simp only [bsumE] at h
  unfold bsumSpec at h
  split at h
  · split at h
    · rename_i b hb
      split at h
      · rename_i hc
        obtain ⟨rfl, rfl, h5⟩ := hc
        cases h
        rw [u8s_spec hb]
        exact bsum_ac h5
      · cases h
    · cases h
  · cases h
theorem owe_bsum {st : St} {x : Value} {i o len : Nat} {b : List Int} (hx : Bys st x i o b) (hb : b.length ≤ 2 ^ 47) (hl : st.length = len) :
    effI (callE bsumE.ks bsumE.spec [x] st) (greads bsumE.ks [x]) len = some (.agg ⟨(digL 32 [] b).map (.int .u8)⟩, st, .load [i]) := by
  have hbr : bares bsumE.ks [x] = false := by simp only [bsumE, bares, hx.bare, Bool.or_false]
  have hpk : picks 0 bsumE.ks 0 [x] = some ([slR 0 b.length], [some ⟨i, o, b.length, false⟩]) := by simp only [bsumE, picks, hx.pick]
  refine owe_see hbr hpk rfl (gcall_see (sst := [byR b .ro]) hbr hpk (hx.small smalls_nil) (by simp [disjFps]) ?_ (by simp) (plain_u8 _)) hl
  simp only [bsumE, bsumSpec, slR, byR, u8s_map]
  rw [if_pos ⟨trivial, trivial, hb⟩]
end Go.Proofs.Ytggkdjhgknghcaa.Bl
