/- What a law is handed in pieces: a row of rows of bytes, of which the first 64 are looked at; steps of loops over such memory. Without conditions. -/
import Derived.Test.YtggkdjhgknghcaaBlL3
import Derived.Test.YtggkdjhgknghcaaVw
namespace Go.Proofs.Ytggkdjhgknghcaa.Run
open Am
def viewSlotsK (σ : Sig) (live keep : List Nat) : Nat → List Value → Option (List Value)
  | _, [] => some []
  | i, v :: r => match viewSlotsK σ live keep (i + 1) r with
    | some l => if keep.contains i then some (v :: l) else if live.contains i then (if isUnk v then some (v :: l) else match sub σ v with
      | some u => some (u :: l)
      | none => none) else some (unk :: l)
    | none => none
theorem viewSlotsK_spec {σ : Sig} {live keep : List Nat} : ∀ {t t2 : List Value} {i : Nat}, viewSlotsK σ live keep i t = some t2 → (∀ (k : Nat) v, keep.contains (i + k) = true → t2[k]? = some v → isUnk v = false ∧ sub σ v = some v) → viewSlots σ (keep ++ live) i t = some t2 := by
  intro t
  induction t with
  | nil => intro t2 i h _; simpa [viewSlotsK, viewSlots] using h
  | cons v r ih =>
    intro t2 i h hk
    simp only [viewSlotsK] at h
    split at h
    · rename_i l hl
      have htail : ∀ {u : Value}, t2 = u :: l → viewSlots σ (keep ++ live) (i + 1) r = some l := fun e => ih hl fun k v hc hv => hk (k + 1) v (by rw [show i + (k + 1) = i + 1 + k from by omega]; exact hc) (by rw [e]; simpa using hv)
      have hc : (keep ++ live).contains i = (keep.contains i || live.contains i) := by simp [List.contains_eq_mem, List.mem_append]
      split at h
      · rename_i hki
        cases h
        obtain ⟨h1, h2⟩ := hk 0 v (by simpa using hki) rfl
        simp only [viewSlots, htail rfl, hc, hki, Bool.true_or, if_true, h1, Bool.false_eq_true, if_false, h2]
      · rename_i hki
        split at h
        · rename_i hli
          split at h
          · rename_i hu
            cases h
            simp only [viewSlots, htail rfl, hc, hli, Bool.or_true, if_true, hu]
          · rename_i hu
            split at h
            · rename_i u hs
              cases h
              simp only [viewSlots, htail rfl, hc, hli, Bool.or_true, if_true, hu, if_false, hs]
              rfl
            · cases h
        · rename_i hli
          cases h
          simp only [viewSlots, htail rfl, hc, hki, hli, Bool.or_false, Bool.false_eq_true, if_false]
    · cases h
theorem viewSt_adr {σ : Sig} {adr : List Nat} {s : St} : ∀ {ids : List Nat} {l : St} {j : Nat}, viewSt σ [] s j ids = some l → (∀ (k id : Nat), ids[k]? = some id → adr.contains (j + k) = true → subReg σ ((s[id]?).getD none) = some ((s[id]?).getD none)) → viewSt σ adr s j ids = some l := by
  intro ids
  induction ids with
  | nil => intro l j h _; simpa [viewSt] using h
  | cons id ids ih =>
    intro l j h hk
    simp only [viewSt] at h
    split at h
    · rename_i l' hl
      have ht := ih hl fun k id' hk1 hc => hk (k + 1) id' (by simpa using hk1) (by rw [show j + (k + 1) = j + 1 + k from by omega]; exact hc)
      have h' : some ((s[id]?).getD none :: l') = some l := h
      simp only [viewSt, ht]
      split
      · rename_i hc
        rw [hk 0 id rfl (by simpa using hc)]
        exact h'
      · exact h'
    · cases h
def fixB (jr : Option Nat) (s : St) (ids : List Nat) : Bool := match jr with
  | none => fixOk 0 s ids
  | some j => rowAt s j && fixOk 0 (s.take j) ids
/-- A step, run, and seen under new numbers; some slots, and region 2, stay as they are. -/
noncomputable def stepB (jr : Option Nat) (es : List Entry) (h : Hint) (n : Nat) (c : Code) (ids live keep : List Nat) (t : List Value) (s : St) : ARes :=
  if fixB jr s ids && nodupB ids then match ex T (orc es) h n c t s with
  | some (e, t', s') => match viewSlotsK (sigInv ids s'.length) live keep 0 t', viewSt (sigInv ids s'.length) [] s' 0 ids with
    | some t2, some s2 => some (e, t2, s2)
    | _, _ => none
  | none => none else none
theorem stepB_ok {jr : Option Nat} {es : List Entry} (hes : ∀ e ∈ es, EntryOk Try.prog e) {h : Hint} {n : Nat} {c : Code} {ids live keep : List Nat} {t : List Value} {s : St} {e : AExit} {t2 : List Value} {s2 : St} (hP : stepP es h n c t s)
    (hv : stepB jr es h n c ids live keep t s = some (e, t2, s2)) (hsub : ∀ (m : Nat), 67 ≤ m → (∀ (k : Nat) v, keep.contains k = true → t2[k]? = some v → isUnk v = false ∧ sub (sigInv ids m) v = some v) ∧ subReg (sigInv ids m) ((s2[2]?).getD none) = some ((s2[2]?).getD none))
    (h66 : ids[66]? = some 66 ∧ ∃ r, s2[66]? = some (some r)) (h2 : ids[2]? = some 2) (hpl : plainBut [2] 0 s2 = true) : RunsP c t s e t2 s2 := by
  unfold stepB at hv
  split at hv
  · rename_i hc
    simp only [Bool.and_eq_true] at hc
    obtain ⟨hc1, hc2⟩ := hc
    split at hv
    · rename_i e1 t1 s1 h1
      split at hv
      · rename_i t3 s3 g1 g2
        simp at hv; obtain ⟨rfl, rfl, rfl⟩ := hv
        obtain ⟨_, hsp⟩ := viewSt_spec g2
        have hm : 67 ≤ s1.length := by
          obtain ⟨r, hr⟩ := h66.2
          obtain ⟨id, k1, k2⟩ := hsp 66 _ hr
          rw [h66.1] at k1; cases k1
          rcases k2 with ⟨hq, _⟩ | ⟨_, hq⟩
          · simp at hq
          · apply Decidable.byContradiction
            intro hlt
            rw [List.getElem?_eq_none (by omega)] at hq
            simp at hq
        obtain ⟨f1, f2⟩ := hsub _ hm
        have v1 := viewSlotsK_spec g1 (fun k v hk hv => f1 k v (by simpa using hk) hv)
        have v2 : viewSt (sigInv ids s1.length) [2] s1 0 ids = some s3 := viewSt_adr g2 fun k id hk hcc => by
          have hk2 : k = 2 := by simpa using hcc
          subst hk2
          rw [h2] at hk; cases hk
          have e2 : (s3[2]?).getD none = (s1[2]?).getD none := by
            have hl := (viewSt_spec g2).1
            have h2l : 2 < s3.length := by rw [hl]; exact (List.getElem?_eq_some_iff.1 h2).1
            obtain ⟨id, k1, k2⟩ := hsp 2 _ (List.getElem?_eq_getElem h2l)
            rw [h2] at k1; cases k1
            rcases k2 with ⟨hq, _⟩ | ⟨_, hq⟩
            · simp at hq
            · rw [List.getElem?_eq_getElem h2l, hq]; rfl
          rw [← e2]
          exact f2
        cases jr with
        | none => exact Runs.view (ex_runs hT (orc_ok hes) hmix hP h1) hc1 hc2 v1 v2 hpl
        | some j =>
          simp only [fixB, Bool.and_eq_true] at hc1
          exact view2 (ex_runs hT (orc_ok hes) hmix hP h1) hc1.1 hc1.2 hc2 v1 v2 hpl
      · cases hv
    · cases hv
  · cases hv
/-- A law, run: what it made is not told. -/
noncomputable def goX (es : List Entry) (h : Hint) (n : Nat) (fn : Func) (args : List Value) (st : St) : Option Value :=
  match goFH es h n fn args st with
  | some (r, _) => some r
  | none => none
theorem runX_ok {es : List Entry} (hes : ∀ e ∈ es, EntryOk Try.prog e) {f : FuncId} {fn : Func} {hint : Hint} {n : Nat} (hf : Try.prog.funcs[f]? = some fn) (hb : fn.body.isNone = false) {a : List Value} {s : St} {r : Value} (hP : owes es hint n fn a s) (h : goX es hint n fn a s = some r) : ∃ s', AC Try.prog f a s r s' := by
  unfold goX at h
  split at h
  · rename_i r1 s1 h1
    cases h
    exact ⟨s1, runH_ok hes hf hb hP h1⟩
  · cases h
end Go.Proofs.Ytggkdjhgknghcaa.Run
namespace Go.Proofs.Ytggkdjhgknghcaa.Bl
open Am Run IntWalk Byt

def inn (b : Nat → List Int) : St := (List.range 64).map fun j => byR (b j) .ro
def outC (n : Nat) (b : Nat → List Int) : List Value := (List.range (min n 64)).map fun j => slR (3 + j) (b j).length
/-- The memory that the law is told of: a key, the row, its rows; and what came since. -/
def sPi (key : List Int) (n : Nat) (b : Nat → List Int) (q : St) : St := none :: byR key .ro :: some ⟨outC n b, .ro⟩ :: (inn b ++ q)
theorem inn_length (b : Nat → List Int) : (inn b).length = 64 := by simp [inn]
theorem sPi_length (key : List Int) (n : Nat) (b : Nat → List Int) (q : St) : (sPi key n b q).length = 67 + q.length := by
  simp [sPi, inn_length]; omega
theorem sPi_app (key : List Int) (n : Nat) (b : Nat → List Int) (q r : St) : sPi key n b q ++ r = sPi key n b (q ++ r) := by simp [sPi]
theorem sPi_in {key : List Int} {n : Nat} {b : Nat → List Int} {q : St} {i : Nat} (h : i < 64) : (sPi key n b q)[3 + i]? = some (byR (b i) .ro) := by
  unfold sPi
  rw [show 3 + i = i + 1 + 1 + 1 from by omega]
  simp only [List.getElem?_cons_succ]
  rw [List.getElem?_append_left (by rw [inn_length]; exact h)]
  simp [inn, h]
theorem sPi_get {key : List Int} {n : Nat} {b : Nat → List Int} {q : St} {p k : Nat} (h : p = 67 + k) : (sPi key n b q)[p]? = q[k]? := by
  subst h
  unfold sPi
  rw [show 67 + k = 64 + k + 1 + 1 + 1 from by omega]
  simp only [List.getElem?_cons_succ]
  rw [List.getElem?_append_right (by rw [inn_length]; omega), inn_length]
  congr 1; omega
theorem sPi_set {key : List Int} {n : Nat} {b : Nat → List Int} {q : St} {p k : Nat} {x : Option Reg} (h : p = 67 + k) : (sPi key n b q).set p x = sPi key n b (q.set k x) := by
  subst h
  unfold sPi
  rw [show 67 + k = 64 + k + 1 + 1 + 1 from by omega]
  simp only [List.set_cons_succ]
  rw [List.set_append_right _ _ (by rw [inn_length]; omega), inn_length]
  congr 5; omega
theorem plainBut_all {adr : List Nat} : ∀ {l : St} {j : Nat}, l.all plainReg = true → plainBut adr j l = true
  | [], _, _ => rfl
  | x :: l, j, h => by
    simp only [List.all_cons, Bool.and_eq_true] at h
    simp only [plainBut, h.1, Bool.or_true, Bool.true_and]
    exact plainBut_all h.2
theorem sPi_plain {key : List Int} {n : Nat} {b : Nat → List Int} {q : St} (h : q.all plainReg = true) : plainBut [2] 0 (sPi key n b q) = true := by
  have h1 : (inn b ++ q).all plainReg = true := by
    rw [List.all_append, h, Bool.and_true]
    refine List.all_eq_true.2 fun x hx => ?_
    obtain ⟨j, _, rfl⟩ := List.mem_map.1 hx
    exact plainReg_u8 _ _
  have h2 := plainBut_all (adr := [2]) (j := 3) h1
  have e1 : plainReg none = true := rfl
  simp only [sPi, plainBut, byR, plainReg_u8, e1, Bool.or_true, Bool.true_and]
  exact h2
theorem outC_sub {n : Nat} {b : Nat → List Int} {σ : Sig} (h : ∀ i, i < 67 → σ[i]? = some (some (i, 0))) : subReg σ (some ⟨outC n b, .ro⟩) = some (some ⟨outC n b, .ro⟩) := by
  have : ∀ l : List Nat, (∀ j ∈ l, j < 64) → mapO (sub0 σ) (l.map fun j => slR (3 + j) (b j).length) = some (l.map fun j => slR (3 + j) (b j).length) := by
    intro l
    induction l with
    | nil => intro _; rfl
    | cons a r ih =>
      intro hl
      have h1 : sub0 σ (slR (3 + a) (b a).length) = some (slR (3 + a) (b a).length) := by
        simp only [slR, sub0, h (3 + a) (by have := hl a (by simp); omega), Nat.zero_add]
      simp only [List.map_cons, mapO, h1, ih fun j hj => hl j (by simp [hj])]
  unfold subReg outC
  simp only [this (List.range (min n 64)) fun j hj => by have := List.mem_range.1 hj; omega]
theorem slice_sub {σ : Sig} (h : ∀ i, i < 67 → σ[i]? = some (some (i, 0))) {i q m : Nat} (hi : i < 64) : sub σ (.slice (some ⟨3 + i, 0, none⟩) q m) = some (.slice (some ⟨3 + i, 0, none⟩) q m) := by
  simp only [sub, sub1, sub0, h (3 + i) (by omega), Nat.zero_add]
/-- The first 67 numbers stay. -/
def idsOk (ids : List Nat) : Bool := (List.range 67).all fun i => posOf ids i 0 == some i
theorem sig_ok {ids : List Nat} (h : idsOk ids = true) {m : Nat} (hm : 67 ≤ m) : ∀ i, i < 67 → (sigInv ids m)[i]? = some (some (i, 0)) := by
  intro i hi
  have := List.all_eq_true.1 h i (List.mem_range.2 hi)
  rw [beq_iff_eq] at this
  unfold sigInv
  rw [List.getElem?_map, List.getElem?_range (by omega), Option.map_some, this]
  rfl
/-- A step over this memory. -/
theorem stepPi_ok {jr : Option Nat} {es : List Entry} (hes : ∀ e ∈ es, EntryOk Try.prog e) {h : Hint} {n : Nat} {c : Code} {ids live keep : List Nat} {t : List Value} {s : St} {e : AExit} {t2 : List Value} {key : List Int} {N : Nat} {b : Nat → List Int} {q : St} (hP : stepP es h n c t s)
    (hv : stepB jr es h n c ids live keep t s = some (e, t2, sPi key N b q)) (hid : idsOk ids = true) (h66 : ids[66]? = some 66) (h2 : ids[2]? = some 2) (hk : ∀ (k : Nat) v, keep.contains k = true → t2[k]? = some v → ∃ i q m, i < 64 ∧ v = .slice (some ⟨3 + i, 0, none⟩) q m) (hpl : q.all plainReg = true) :
    RunsP c t s e t2 (sPi key N b q) := by
  refine stepB_ok hes hP hv (fun m hm => ⟨fun k v h1 h2 => ?_, ?_⟩) ⟨h66, _, sPi_in (i := 63) (by decide)⟩ h2 (sPi_plain hpl)
  · obtain ⟨i, q, m', hi, rfl⟩ := hk k v h1 h2
    exact ⟨rfl, slice_sub (sig_ok hid hm) hi⟩
  · exact outC_sub (sig_ok hid hm)
end Go.Proofs.Ytggkdjhgknghcaa.Bl
