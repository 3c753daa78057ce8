/- The law BlakeSplit: the machine's run of it, and of what it calls. Without conditions. -/
import Derived.Test.YtggkdjhgknghcaaBlL1
namespace Go.Proofs.Ytggkdjhgknghcaa.Bl
open Am Run IntWalk Byt

def sSp (key b : List Int) : St := [none, byR key .ro, byR b .ro, none]
def aSp (size : Int) (p q : Nat) (i : Int) : List Value := [.int .i64 size, slR 1 p, slR 2 q, .int .i64 i]
theorem plSp (key b : List Int) : (sSp key b).all plainReg = true := by simp only [sSp, List.all_cons, List.all_nil, byR, plain_u8, plainReg, Bool.and_true, Bool.and_self]
def hSp (z q m : Nat) (H H1 H2 : HS) (d1 d2 : List Int) : Hint := ⟨fun r i => match r, i with
  | 1, 2 => some (.eff (.tuple #[pR 4, .int .i64 0]) (fun s => s ++ [hR H]) [])
  | 4, 3 => some (.pure (.slice (some ⟨2, 0, none⟩) m q))
  | 4, 4 => some (.eff (.tuple #[]) (fun s => s.set 4 (hR H1)) [4])
  | 5, 1 => some (.eff (.slice (some ⟨5, 0, none⟩) z z) (fun s => s ++ [byR d1 .rw]) [])
  | 6, 3 => some (.pure (.slice (some ⟨2, m, none⟩) (q - m) (q - m)))
  | 6, 4 => some (.eff (.tuple #[]) (fun s => s.set 4 (hR H2)) [4])
  | 7, 1 => some (.eff (.slice (some ⟨6, 0, none⟩) z z) (fun s => s ++ [byR d2 .rw]) [])
  | _, _ => none, fun _ => none⟩
def lo (i m c : Nat) : Value := .slice (some ⟨i, 0, none⟩) m c
def hi (i m r : Nat) : Value := .slice (some ⟨i, m, none⟩) r r
theorem spR (size : Int) (z p q m : Nat) (key b d1 d2 : List Int) (H H1 H2 : HS) : goFH ofEs (hSp z q m H H1 H2 d1 d2) 0 Try.f26 (aSp size p q (m : Int)) (sSp key b) =
    some (.tuple #[.slice (some ⟨6, 0, none⟩) z z, .int .i64 0], sSp key b ++ [hR H2] ++ [byR d1 .rw] ++ [byR d2 .rw]) := by kernel_rfl
theorem spP (size : Int) (z p q m : Nat) (key b d1 d2 : List Int) (H H1 H2 : HS) : owes ofEs (hSp z q m H H1 H2 d1 d2) 0 Try.f26 (aSp size p q (m : Int)) (sSp key b) =
    (((none : Option Value) = none ∧ effI (callE newE.ks newE.spec [.int .i64 size, slR 1 p] (sSp key b)) (greads newE.ks [.int .i64 size, slR 1 p]) 4 = some (.tuple #[pR 4, .int .i64 0], sSp key b ++ [hR H], .eff [] 4)) ∧
     cut 2 0 q q 1 none (some (.int .i64 (m : Int))) none = some (lo 2 m q) ∧
     ((none : Option Value) = none ∧ effI (callE writeE.ks writeE.spec [pR 4, lo 2 m q] (sSp key b ++ [hR H])) (greads writeE.ks [pR 4, lo 2 m q]) 5 = some (.tuple #[], sSp key b ++ [hR H1], .eff [4] 5)) ∧
     ((none : Option Value) = none ∧ effI (callE hsumE.ks hsumE.spec [pR 4] (sSp key b ++ [hR H1])) (greads hsumE.ks [pR 4]) 5 = some (.slice (some ⟨5, 0, none⟩) z z, sSp key b ++ [hR H1] ++ [byR d1 .rw], .eff [] 5)) ∧
     cut 2 0 q q 1 (some (.int .i64 (m : Int))) none none = some (hi 2 m (q - m)) ∧
     ((none : Option Value) = none ∧ effI (callE writeE.ks writeE.spec [pR 4, hi 2 m (q - m)] (sSp key b ++ [hR H1] ++ [byR d1 .rw])) (greads writeE.ks [pR 4, hi 2 m (q - m)]) 6 = some (.tuple #[], sSp key b ++ [hR H2] ++ [byR d1 .rw], .eff [4] 6)) ∧
     ((none : Option Value) = none ∧ effI (callE hsumE.ks hsumE.spec [pR 4] (sSp key b ++ [hR H2] ++ [byR d1 .rw])) (greads hsumE.ks [pR 4]) 6 = some (.slice (some ⟨6, 0, none⟩) z z, sSp key b ++ [hR H2] ++ [byR d1 .rw] ++ [byR d2 .rw], .eff [] 6)) ∧ True) := by kernel_rfl
theorem spR0 (size i : Int) (p q : Nat) (key b : List Int) : goNH ofEs hO0 0 Try.f26 (aSp size p q i) (sSp key b) = some (.tuple #[.slice none 0 0, .int .i64 2], sSp key b) := by kernel_rfl
theorem spP0 (size i : Int) (p q : Nat) (key b : List Int) : owes ofEs hO0 0 Try.f26 (aSp size p q i) (sSp key b) =
    (((none : Option Value) = none ∧ effI (callE newE.ks newE.spec [.int .i64 size, slR 1 p] (sSp key b)) (greads newE.ks [.int .i64 size, slR 1 p]) 4 = some (.tuple #[.pointer none, .int .i64 2], sSp key b, .load [1])) ∧ True) := by kernel_rfl
theorem split_bad {size i : Int} {key b : List Int} (h : badN size key.length) : AC Try.prog 26 (aSp size key.length b.length i) (sSp key b) (.tuple #[.slice none 0 0, .int .i64 2]) (sSp key b) := by
  refine runNH_ok ofEs_ok Try.func26 (by kernel_rfl) ?_ (spR0 size i _ _ key b) rfl (plSp key b) rfl
  rw [spP0]
  exact ⟨⟨rfl, owe_newBad (Bys.all rfl) h rfl⟩, trivial⟩
theorem split_fine {size : Int} {m : Nat} {key b : List Int} (h : ¬ badN size key.length) (hm : m ≤ b.length) (hb : b.length ≤ 2 ^ 47) :
    AC Try.prog 26 (aSp size key.length b.length (m : Int)) (sSp key b) (.tuple #[.slice (some ⟨4, 0, none⟩) size.toNat size.toNat, .int .i64 0]) (sSp key b ++ [byR (digL size key b) .rw]) := by
  have hs := h
  unfold badN at hs
  have hz : size = (size.toNat : Int) := by omega
  have htl : (b.take m).length = m := by simp; omega
  have hdl : (b.drop m).length = b.length - m := by simp
  have e : sumL (absorb (absorb (newH size key) (b.take m)) (b.drop m)) = digL size key b := by
    rw [two_D (by omega) (by rw [htl, hdl]; omega), List.take_append_drop]
  have w0 := newH_waits size key
  have w1 := absorb_waits w0 (b.take m)
  have w2 := absorb_waits w1 (b.drop m)
  have b1 : ∀ st : St, st[2]? = some (byR b .ro) → Bys st (lo 2 m b.length) 2 0 (b.take m) := fun st hst => by
    have := Bys.part (st := st) (i := 2) (off := 0) (n := m) (c := b.length) hst (by omega) hm
    rw [List.drop_zero] at this
    exact this
  have b2 : ∀ st : St, st[2]? = some (byR b .ro) → Bys st (hi 2 m (b.length - m)) 2 m (b.drop m) := fun st hst => by
    have := Bys.part (st := st) (i := 2) (off := m) (n := b.length - m) (c := b.length - m) hst (by omega) (Nat.le_refl _)
    rw [List.take_of_length_le (by simp)] at this
    exact this
  have hO := runH_ok ofEs_ok Try.func26 (by kernel_rfl) (hint := hSp size.toNat b.length m (newH size key) (absorb (newH size key) (b.take m)) (absorb (absorb (newH size key) (b.take m)) (b.drop m)) (sumL (absorb (newH size key) (b.take m))) (digL size key b)) (n := 0) (a := aSp size key.length b.length (m : Int)) (s := sSp key b) (by
    rw [spP]
    refine ⟨⟨rfl, owe_new (Bys.all rfl) h rfl⟩, cut_upto hm, ⟨rfl, ?_⟩, ⟨rfl, ?_⟩, cut_from hm, ⟨rfl, ?_⟩, ⟨rfl, ?_⟩, trivial⟩
    · exact owe_hwrite (p := 4) (H := newH size key) rfl (b1 _ rfl) (by decide) (by rw [newH_size]; omega) w0 (by rw [htl]; omega)
    · exact owe_hsum (p := 4) (H := absorb (newH size key) (b.take m)) rfl (by rw [absorb_size, newH_size]; exact hz) (by omega) (by omega) w1 rfl
    · exact owe_hwrite (p := 4) (H := absorb (newH size key) (b.take m)) rfl (b2 _ rfl) (by decide) (by rw [absorb_size, newH_size]; omega) w1 (by rw [hdl]; omega)
    · have := owe_hsum (st := sSp key b ++ [hR (absorb (absorb (newH size key) (b.take m)) (b.drop m))] ++ [byR (sumL (absorb (newH size key) (b.take m))) .rw]) (p := 4) (len := 6) (z := size.toNat) (H := absorb (absorb (newH size key) (b.take m)) (b.drop m)) rfl (by rw [absorb_size, absorb_size, newH_size]; exact hz) (by omega) (by omega) w2 rfl
      rw [e] at this
      exact this) (spR size _ _ _ m key b _ _ _ _ _)
  refine view_plain hO [0, 1, 2, 3, 6] rfl rfl rfl ?_ rfl
  simp only [sSp, List.cons_append, List.nil_append, List.all_cons, List.all_nil, byR, plain_u8, plainReg, Bool.and_true, Bool.and_self]
def splitSpec (args : List Value) (st : St) : Option (Value × St) :=
  match args, st with
  | [.int .i64 size, .slice (some ⟨1, 0, none⟩) m d, .slice (some ⟨2, 0, none⟩) m' d', .int .i64 i], [none, some ⟨xs, .ro⟩, some ⟨ys, .ro⟩, none] => match u8s xs, u8s ys with
    | some key, some b => if m = key.length ∧ d = key.length ∧ m' = b.length ∧ d' = b.length ∧ b.length ≤ 2 ^ 47 ∧ 0 ≤ i ∧ i ≤ (b.length : Int) then
        (if badN size key.length then some (.tuple #[.slice none 0 0, .int .i64 2], sSp key b)
         else some (.tuple #[.slice (some ⟨4, 0, none⟩) size.toNat size.toNat, .int .i64 0], sSp key b ++ [byR (digL size key b) .rw])) else none
    | _, _ => none
  | _, _ => none
noncomputable def splitE : Entry := ⟨26, [.val, .sl false, .sl false, .val], splitSpec⟩
theorem splitE_ok : EntryOk Try.prog splitE := by
  refine ⟨fun a s r s' h => ?_, body_of Try.func26 (by kernel_rfl) (by kernel_rfl)⟩
  simp only [splitE] at h
  unfold splitSpec at h
  split at h
  · rename_i i _ _
    split at h
    · rename_i key b hk hb
      split at h
      · rename_i hc
        obtain ⟨rfl, rfl, rfl, rfl, h5, h6, h7⟩ := hc
        rw [u8s_spec hk, u8s_spec hb]
        split at h
        · rename_i hbad; cases h; exact split_bad hbad
        · rename_i hbad
          cases h
          obtain ⟨m, hm⟩ := Int.eq_ofNat_of_zero_le h6
          subst hm
          exact split_fine hbad (by omega) h5
      · cases h
    · cases h
  · cases h
theorem owe_split {st : St} {x y : Value} {i o j p len m : Nat} {size : Int} {key b : List Int} (hx : Bys st x i o key) (hy : Bys st y j p b) (hb : b.length ≤ 2 ^ 47) (hm : m ≤ b.length) (h : ¬ badN size key.length) (hl : st.length = len) :
    effI (callE splitE.ks splitE.spec [.int .i64 size, x, y, .int .i64 (m : Int)] st) (greads splitE.ks [.int .i64 size, x, y, .int .i64 (m : Int)]) len = some (.tuple #[.slice (some ⟨len, 0, none⟩) size.toNat size.toNat, .int .i64 0], st ++ [byR (digL size key b) .rw], .eff [] len) := by
  subst hl
  have hbr : bares splitE.ks [.int .i64 size, x, y, .int .i64 (m : Int)] = false := by simp only [splitE, bares, hx.bare, hy.bare, Bool.or_false]; rfl
  have hpk : picks 0 splitE.ks 0 [.int .i64 size, x, y, .int .i64 (m : Int)] = some (aSp size key.length b.length (m : Int), [none, some ⟨i, o, key.length, false⟩, some ⟨j, p, b.length, false⟩, none]) := by simp only [splitE, picks, hx.pick, hy.pick]; rfl
  refine owe_look hbr hpk rfl (gcall_look (sst := sSp key b) (news := [byR (digL size key b) .rw]) (res := .tuple #[.slice (some ⟨4, 0, none⟩) size.toNat size.toNat, .int .i64 0]) hbr hpk (smalls_none (hx.small (hy.small (smalls_none smalls_nil)))) (by simp [disjFps, disj1]) ?_ (by simp) (mapO_plainReg ?_) rfl) (by simp)
  · simp only [splitE, splitSpec, aSp, slR, sSp, byR, u8s_map]
    rw [if_pos ⟨trivial, trivial, trivial, trivial, hb, by omega, by omega⟩, if_neg h]
  · simp only [List.all_cons, List.all_nil, byR, plainReg, plain_u8, Bool.and_true]
theorem owe_splitBad {st : St} {x y : Value} {i o j p len m : Nat} {size : Int} {key b : List Int} (hx : Bys st x i o key) (hy : Bys st y j p b) (hb : b.length ≤ 2 ^ 47) (hm : m ≤ b.length) (h : badN size key.length) (hl : st.length = len) :
    effI (callE splitE.ks splitE.spec [.int .i64 size, x, y, .int .i64 (m : Int)] st) (greads splitE.ks [.int .i64 size, x, y, .int .i64 (m : Int)]) len = some (.tuple #[.slice none 0 0, .int .i64 2], st, .load [i, j]) := by
  have hbr : bares splitE.ks [.int .i64 size, x, y, .int .i64 (m : Int)] = false := by simp only [splitE, bares, hx.bare, hy.bare, Bool.or_false]; rfl
  have hpk : picks 0 splitE.ks 0 [.int .i64 size, x, y, .int .i64 (m : Int)] = some (aSp size key.length b.length (m : Int), [none, some ⟨i, o, key.length, false⟩, some ⟨j, p, b.length, false⟩, none]) := by simp only [splitE, picks, hx.pick, hy.pick]; rfl
  refine owe_see hbr hpk rfl (gcall_see (sst := sSp key b) hbr hpk (smalls_none (hx.small (hy.small (smalls_none smalls_nil)))) (by simp [disjFps, disj1]) ?_ (by simp) rfl) hl
  simp only [splitE, splitSpec, aSp, slR, sSp, byR, u8s_map]
  rw [if_pos ⟨trivial, trivial, trivial, trivial, hb, by omega, by omega⟩, if_pos h]

/-! split2 -/
noncomputable def sp2Es : List Entry := [brE, splitE, ofE, eqBytesE]
theorem sp2Es_ok : ∀ e ∈ sp2Es, EntryOk Try.prog e := esc brE_ok (esc splitE_ok (esc ofE_ok (es1 eqBytesE_ok)))
def hS2 (z q m : Nat) (d : List Int) : Hint := ⟨fun r i => match r, i with
  | 1, 6 => some (.pure (.int .i64 ((q + 1 : Nat) : Int)))
  | 1, 7 => some (.read (.int .i64 (m : Int)) [])
  | 1, 8 => some (.eff (.tuple #[.slice (some ⟨4, 0, none⟩) z z, .int .i64 0]) (fun s => s ++ [byR d .rw]) [])
  | 2, 3 => some (.eff (.tuple #[.slice (some ⟨5, 0, none⟩) z z, .int .i64 0]) (fun s => s ++ [byR d .rw]) [])
  | 3, 2 => some (.read (.bool true) [4, 5])
  | 3, 12 => some (.pure (.bool true))
  | 3, 15 => some (.pure (.bool true))
  | 3, 20 => some (.pure (.bool true))
  | _, _ => none, fun _ => none⟩
def hS2b (q m : Nat) (x y z : Bool) : Hint := ⟨fun r i => match r, i with
  | 1, 6 => some (.pure (.int .i64 ((q + 1 : Nat) : Int)))
  | 1, 7 => some (.read (.int .i64 (m : Int)) [])
  | 1, 8 => some (.read (.tuple #[.slice none 0 0, .int .i64 2]) [1, 2])
  | 2, 3 => some (.read (.tuple #[.slice none 0 0, .int .i64 2]) [1, 2])
  | 3, 12 => some (.pure (.bool x))
  | 3, 15 => if x then some (.pure (.bool y)) else none
  | 3, 20 => if x && y then some (.pure (.bool z)) else none
  | _, _ => none, fun _ => none⟩
def bA (q : Nat) (i : Int) : List Value := [.int .i64 i, .int .i64 ((q + 1 : Nat) : Int)]
def sl0 (i z : Nat) : Value := .slice (some ⟨i, 0, none⟩) z z
theorem s2R (z p q m : Nat) (i : Int) (key b d : List Int) : goNH sp2Es (hS2 z q m d) 0 Try.f18 (aSp (z : Int) p q i) (sSp key b) = some (.bool true, sSp key b) := by kernel_rfl
theorem s2P (z p q m : Nat) (i : Int) (key b d : List Int) : owes sp2Es (hS2 z q m d) 0 Try.f18 (aSp (z : Int) p q i) (sSp key b) =
    (aint .add .i64 (q : Int) 1 = some (.int .i64 ((q + 1 : Nat) : Int)) ∧
     ((none : Option Value) = none ∧ effI (callE brE.ks brE.spec (bA q i) (sSp key b)) (greads brE.ks (bA q i)) 4 = some (.int .i64 (m : Int), sSp key b, .load [])) ∧
     ((none : Option Value) = none ∧ effI (callE splitE.ks splitE.spec (aSp (z : Int) p q (m : Int)) (sSp key b)) (greads splitE.ks (aSp (z : Int) p q (m : Int))) 4 = some (.tuple #[sl0 4 z, .int .i64 0], sSp key b ++ [byR d .rw], .eff [] 4)) ∧
     ((none : Option Value) = none ∧ effI (callE ofE.ks ofE.spec (rargs z p q) (sSp key b ++ [byR d .rw])) (greads ofE.ks (rargs z p q)) 5 = some (.tuple #[sl0 5 z, .int .i64 0], sSp key b ++ [byR d .rw] ++ [byR d .rw], .eff [] 5)) ∧
     ((none : Option Value) = none ∧ effI (callE eqBytesE.ks eqBytesE.spec [sl0 4 z, sl0 5 z] (sSp key b ++ [byR d .rw] ++ [byR d .rw])) (greads eqBytesE.ks [sl0 4 z, sl0 5 z]) 6 = some (.bool true, sSp key b ++ [byR d .rw] ++ [byR d .rw], .load [4, 5])) ∧
     aint .geq .i64 (z : Int) 1 = some (.bool true) ∧ aint .leq .i64 (z : Int) 32 = some (.bool true) ∧ aint .leq .i64 (p : Int) 32 = some (.bool true) ∧ True) := by kernel_rfl
theorem s2R1 (size i : Int) (p q m : Nat) (key b : List Int) : goNH sp2Es (hS2b q m false false false) 0 Try.f18 (aSp size p q i) (sSp key b) = some (.bool true, sSp key b) := by kernel_rfl
theorem s2P1 (size i : Int) (p q m : Nat) (key b : List Int) : owes sp2Es (hS2b q m false false false) 0 Try.f18 (aSp size p q i) (sSp key b) =
    (aint .add .i64 (q : Int) 1 = some (.int .i64 ((q + 1 : Nat) : Int)) ∧
     ((none : Option Value) = none ∧ effI (callE brE.ks brE.spec (bA q i) (sSp key b)) (greads brE.ks (bA q i)) 4 = some (.int .i64 (m : Int), sSp key b, .load [])) ∧
     ((none : Option Value) = none ∧ effI (callE splitE.ks splitE.spec (aSp size p q (m : Int)) (sSp key b)) (greads splitE.ks (aSp size p q (m : Int))) 4 = some (.tuple #[.slice none 0 0, .int .i64 2], sSp key b, .load [1, 2])) ∧
     ((none : Option Value) = none ∧ effI (callE ofE.ks ofE.spec (argsO size p q) (sSp key b)) (greads ofE.ks (argsO size p q)) 4 = some (.tuple #[.slice none 0 0, .int .i64 2], sSp key b, .load [1, 2])) ∧
     aint .geq .i64 size 1 = some (.bool false) ∧ True) := by kernel_rfl
theorem s2R2 (size i : Int) (p q m : Nat) (key b : List Int) : goNH sp2Es (hS2b q m true false false) 0 Try.f18 (aSp size p q i) (sSp key b) = some (.bool true, sSp key b) := by kernel_rfl
theorem s2P2 (size i : Int) (p q m : Nat) (key b : List Int) : owes sp2Es (hS2b q m true false false) 0 Try.f18 (aSp size p q i) (sSp key b) =
    (aint .add .i64 (q : Int) 1 = some (.int .i64 ((q + 1 : Nat) : Int)) ∧
     ((none : Option Value) = none ∧ effI (callE brE.ks brE.spec (bA q i) (sSp key b)) (greads brE.ks (bA q i)) 4 = some (.int .i64 (m : Int), sSp key b, .load [])) ∧
     ((none : Option Value) = none ∧ effI (callE splitE.ks splitE.spec (aSp size p q (m : Int)) (sSp key b)) (greads splitE.ks (aSp size p q (m : Int))) 4 = some (.tuple #[.slice none 0 0, .int .i64 2], sSp key b, .load [1, 2])) ∧
     ((none : Option Value) = none ∧ effI (callE ofE.ks ofE.spec (argsO size p q) (sSp key b)) (greads ofE.ks (argsO size p q)) 4 = some (.tuple #[.slice none 0 0, .int .i64 2], sSp key b, .load [1, 2])) ∧
     aint .geq .i64 size 1 = some (.bool true) ∧ aint .leq .i64 size 32 = some (.bool false) ∧ True) := by kernel_rfl
theorem s2R3 (size i : Int) (p q m : Nat) (key b : List Int) : goNH sp2Es (hS2b q m true true false) 0 Try.f18 (aSp size p q i) (sSp key b) = some (.bool true, sSp key b) := by kernel_rfl
theorem s2P3 (size i : Int) (p q m : Nat) (key b : List Int) : owes sp2Es (hS2b q m true true false) 0 Try.f18 (aSp size p q i) (sSp key b) =
    (aint .add .i64 (q : Int) 1 = some (.int .i64 ((q + 1 : Nat) : Int)) ∧
     ((none : Option Value) = none ∧ effI (callE brE.ks brE.spec (bA q i) (sSp key b)) (greads brE.ks (bA q i)) 4 = some (.int .i64 (m : Int), sSp key b, .load [])) ∧
     ((none : Option Value) = none ∧ effI (callE splitE.ks splitE.spec (aSp size p q (m : Int)) (sSp key b)) (greads splitE.ks (aSp size p q (m : Int))) 4 = some (.tuple #[.slice none 0 0, .int .i64 2], sSp key b, .load [1, 2])) ∧
     ((none : Option Value) = none ∧ effI (callE ofE.ks ofE.spec (argsO size p q) (sSp key b)) (greads ofE.ks (argsO size p q)) 4 = some (.tuple #[.slice none 0 0, .int .i64 2], sSp key b, .load [1, 2])) ∧
     aint .geq .i64 size 1 = some (.bool true) ∧ aint .leq .i64 size 32 = some (.bool true) ∧ aint .leq .i64 (p : Int) 32 = some (.bool false) ∧ True) := by kernel_rfl
theorem split2_ac {size i : Int} {key b : List Int} (hb : b.length ≤ 140737488351232) : AC Try.prog 18 (aSp size key.length b.length i) (sSp key b) (.bool true) (sSp key b) := by
  obtain ⟨m, hm⟩ := Int.eq_ofNat_of_zero_le (show 0 ≤ i % ((b.length + 1 : Nat) : Int) from Int.emod_nonneg _ (by omega))
  have hlt : (m : Int) < ((b.length + 1 : Nat) : Int) := by rw [← hm]; exact Int.emod_lt_of_pos _ (by omega)
  have hml : m ≤ b.length := by omega
  have h1 : aint .add .i64 (b.length : Int) 1 = some (.int .i64 ((b.length + 1 : Nat) : Int)) := add_i64 (by omega) (by omega)
  have h2 : effI (callE brE.ks brE.spec (bA b.length i) (sSp key b)) (greads brE.ks (bA b.length i)) 4 = some (.int .i64 (m : Int), sSp key b, .load []) := by
    have := owe_bring (s := sSp key b) (i := i) (n := ((b.length + 1 : Nat) : Int)) (len := 4) (by omega) rfl
    rw [hm] at this
    exact this
  by_cases h : badN size key.length
  · have h3 := owe_splitBad (st := sSp key b) (len := 4) (m := m) (Bys.all (i := 1) rfl) (Bys.all (i := 2) rfl) (show b.length ≤ 2 ^ 47 by omega) hml h rfl
    have h4 := owe_ofBad (st := sSp key b) (len := 4) (Bys.all (i := 1) rfl) (Bys.all (i := 2) rfl) (show b.length ≤ 2 ^ 47 by omega) h rfl
    have h' := h
    unfold badN at h'
    by_cases k1 : size < 1
    · refine runNH_ok sp2Es_ok Try.func18 (by kernel_rfl) ?_ (s2R1 size i _ _ m key b) rfl (plSp key b) rfl
      rw [s2P1]; exact ⟨h1, ⟨rfl, h2⟩, ⟨rfl, h3⟩, ⟨rfl, h4⟩, geq_eq (by simp; omega), trivial⟩
    · by_cases k2 : 32 < size
      · refine runNH_ok sp2Es_ok Try.func18 (by kernel_rfl) ?_ (s2R2 size i _ _ m key b) rfl (plSp key b) rfl
        rw [s2P2]; exact ⟨h1, ⟨rfl, h2⟩, ⟨rfl, h3⟩, ⟨rfl, h4⟩, geq_eq (by simp; omega), leq_eq (by simp; omega), trivial⟩
      · refine runNH_ok sp2Es_ok Try.func18 (by kernel_rfl) ?_ (s2R3 size i _ _ m key b) rfl (plSp key b) rfl
        rw [s2P3]; exact ⟨h1, ⟨rfl, h2⟩, ⟨rfl, h3⟩, ⟨rfl, h4⟩, geq_eq (by simp; omega), leq_eq (by simp; omega), leq_eq (by simp; omega), trivial⟩
  · have h' := h
    unfold badN at h'
    obtain ⟨z, hz⟩ := Int.eq_ofNat_of_zero_le (show 0 ≤ size by omega)
    subst hz
    refine runNH_ok sp2Es_ok Try.func18 (by kernel_rfl) ?_ (s2R z _ _ m i key b (digL (z : Int) key b)) rfl (plSp key b) rfl
    rw [s2P]
    have hd := digL_length (z : Int) key b
    have hz : z ≤ 32 := by omega
    refine ⟨h1, ⟨rfl, h2⟩, ⟨rfl, owe_split (Bys.all rfl) (Bys.all rfl) (by omega) hml h rfl⟩, ⟨rfl, owe_of (Bys.all rfl) (Bys.all rfl) (by omega) h rfl⟩, ⟨rfl, ?_⟩, geq_eq (by simp; omega), leq_eq (by simp; omega), leq_eq (by simp; omega), trivial⟩
    have e1 := Bys.part (st := sSp key b ++ [byR (digL (z : Int) key b) .rw] ++ [byR (digL (z : Int) key b) .rw]) (i := 4) (off := 0) (n := z) (c := z) rfl (by omega) (Nat.le_refl _)
    have e2 := Bys.part (st := sSp key b ++ [byR (digL (z : Int) key b) .rw] ++ [byR (digL (z : Int) key b) .rw]) (i := 5) (off := 0) (n := z) (c := z) rfl (by omega) (Nat.le_refl _)
    exact eq_self e1 e2 (by simp; omega) rfl
def split2Spec (args : List Value) (st : St) : Option (Value × St) :=
  match args, st with
  | [.int .i64 size, .slice (some ⟨1, 0, none⟩) m d, .slice (some ⟨2, 0, none⟩) m' d', .int .i64 i], [none, some ⟨xs, .ro⟩, some ⟨ys, .ro⟩, none] => match u8s xs, u8s ys with
    | some key, some b => if m = key.length ∧ d = key.length ∧ m' = b.length ∧ d' = b.length ∧ b.length ≤ 140737488351232 then some (.bool true, sSp key b) else none
    | _, _ => none
  | _, _ => none
noncomputable def split2E : Entry := ⟨18, [.val, .sl false, .sl false, .val], split2Spec⟩
theorem split2E_ok : EntryOk Try.prog split2E := by
  refine ⟨fun a s r s' h => ?_, body_of Try.func18 (by kernel_rfl) (by kernel_rfl)⟩
  simp only [split2E] at h
  unfold split2Spec at h
  split at h
  · split at h
    · rename_i key b hk hb
      split at h
      · rename_i hc
        obtain ⟨rfl, rfl, rfl, rfl, h5⟩ := hc
        cases h
        rw [u8s_spec hk, u8s_spec hb]
        exact split2_ac h5
      · cases h
    · cases h
  · cases h
theorem owe_split2 {st : St} {x y : Value} {i o j p len : Nat} {size at_ : Int} {key b : List Int} (hx : Bys st x i o key) (hy : Bys st y j p b) (hb : b.length ≤ 140737488351232) (hl : st.length = len) :
    effI (callE split2E.ks split2E.spec [.int .i64 size, x, y, .int .i64 at_] st) (greads split2E.ks [.int .i64 size, x, y, .int .i64 at_]) len = some (.bool true, st, .load [i, j]) := by
  have hbr : bares split2E.ks [.int .i64 size, x, y, .int .i64 at_] = false := by simp only [split2E, bares, hx.bare, hy.bare, Bool.or_false]; rfl
  have hpk : picks 0 split2E.ks 0 [.int .i64 size, x, y, .int .i64 at_] = some (aSp size key.length b.length at_, [none, some ⟨i, o, key.length, false⟩, some ⟨j, p, b.length, false⟩, none]) := by simp only [split2E, picks, hx.pick, hy.pick]; rfl
  refine owe_see hbr hpk rfl (gcall_see (sst := sSp key b) hbr hpk (smalls_none (hx.small (hy.small (smalls_none smalls_nil)))) (by simp [disjFps, disj1]) ?_ (by simp) rfl) hl
  simp only [split2E, split2Spec, aSp, slR, sSp, byR, u8s_map]
  rw [if_pos ⟨trivial, trivial, trivial, trivial, hb⟩]

/-! BlakeSplit -/
noncomputable def bspEs : List Entry := [worksE, split2E]
theorem bspEs_ok : ∀ e ∈ bspEs, EntryOk Try.prog e := esc worksE_ok (es1 split2E_ok)
def hBs : Hint := ⟨fun r i => match r, i with
  | 1, 9 => some (.read (.bool true) [0, 1])
  | _, _ => none, fun _ => none⟩
def cutV (size i : Int) (p : Nat) : Value := .agg #[.int .i64 size, slR 0 p, .int .i64 i]
def sBs (key b : List Int) (size i : Int) (p : Nat) : St := [byR key .ro, byR b .ro, some ⟨[.int .i64 size, slR 0 p, .int .i64 i], .rw⟩]
theorem bspR (size i : Int) (p q : Nat) (key b : List Int) : goNH bspEs hBs 0 Try.f5 [cutV size i p, slR 1 q] [byR key .ro, byR b .ro] = some (.bool true, [byR key .ro, byR b .ro]) := by kernel_rfl
theorem bspP (size i : Int) (p q : Nat) (key b : List Int) : owes bspEs hBs 0 Try.f5 [cutV size i p, slR 1 q] [byR key .ro, byR b .ro] =
    (((none : Option Value) = none ∧ effI (callE split2E.ks split2E.spec [.int .i64 size, slR 0 p, slR 1 q, .int .i64 i] (sBs key b size i p)) (greads split2E.ks [.int .i64 size, slR 0 p, slR 1 q, .int .i64 i]) 3 = some (.bool true, sBs key b size i p, .load [0, 1])) ∧ True) := by kernel_rfl
theorem lawSplit (size i : Int) (key b : List Int) (hb : b.length ≤ 140737488351232) : AC Try.prog 5 [cutV size i key.length, slR 1 b.length] [byR key .ro, byR b .ro] (.bool true) [byR key .ro, byR b .ro] := by
  refine runNH_ok bspEs_ok Try.func5 (by kernel_rfl) ?_ (bspR size i _ _ key b) rfl ?_ rfl
  · rw [bspP]
    exact ⟨⟨rfl, owe_split2 (Bys.all rfl) (Bys.all rfl) hb rfl⟩, trivial⟩
  · simp only [List.all_cons, List.all_nil, byR, plain_u8, plainReg, Bool.and_true, Bool.and_self]
end Go.Proofs.Ytggkdjhgknghcaa.Bl
