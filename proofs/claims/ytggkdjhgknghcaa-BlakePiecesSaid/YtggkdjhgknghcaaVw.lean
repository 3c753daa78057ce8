/- This text holds a part of the machinery of the proof: a loop's step seen under new numbers, where a row tells that all behind it is new. Without conditions. -/
import Derived.Test.YtggkdjhgknghcaaRun
namespace Go.Proofs.Ytggkdjhgknghcaa.Run
open Am
def rowAt (s : St) (j : Nat) : Bool := match s[j]? with
  | some (some ⟨_, .row _⟩) => true
  | _ => false
theorem rowAt_spec {s : St} {j : Nat} (h : rowAt s j = true) : ∃ r e, s[j]? = some (some r) ∧ r.kind = .row e := by
  unfold rowAt at h
  split at h
  · rename_i cs e hs; exact ⟨_, _, hs, rfl⟩
  · cases h
theorem view2 {P : Program} {c : Code} {t s e t' s'} (h : Runs P c t s e t' s') {j : Nat} {ids adr live : List Nat} {t2 : List Value} {s2 : St} (hj : rowAt s j = true)
    (h0 : fixOk 0 (s.take j) ids = true) (hnd : nodupB ids = true) (ht : viewSlots (sigInv ids s'.length) live 0 t' = some t2) (hs : viewSt (sigInv ids s'.length) adr s' 0 ids = some s2) (hpl : plainBut adr 0 s2 = true) :
    Runs P c t s e t2 s2 := by
  refine ⟨?_⟩
  intro n b T0 w0 μ a w Q ha hR hQ
  obtain ⟨r, k, hr, hk⟩ := rowAt_spec hj
  have hb : b ≤ j := by
    apply Decidable.byContradiction
    intro hlt
    exact hR.prot.2 j r k (by omega) hr hk
  have hjl : j < s.length := (List.getElem?_eq_some_iff.1 hr).1
  refine h.run ha hR fun μ' a' w' h1 h2 h3 => ?_
  obtain ⟨μ2, g1, g2, g3⟩ := h3.view h2 h0 hnd (by rw [List.length_take]; omega) (fun i r e hi hs => by
    rw [List.getElem?_take, if_pos (by omega)] at hs
    exact hR.prot.2 i r e hi hs) ht hs hpl
  exact hQ μ2 a' w' (h1.trans g1) g2 g3
noncomputable def stepV2 (j : Nat) (es : List Entry) (h : Hint) (n : Nat) (c : Code) (ids adr live : List Nat) (t : List Value) (s : St) : ARes :=
  if rowAt s j && (fixOk 0 (s.take j) ids && nodupB ids) then match ex T (orc es) h n c t s with
  | some (e, t', s') => match viewSlots (sigInv ids s'.length) live 0 t', viewSt (sigInv ids s'.length) adr s' 0 ids with
    | some t2, some s2 => some (e, t2, s2)
    | _, _ => none
  | none => none else none
theorem step2_ok {j : Nat} {es : List Entry} (hes : ∀ e ∈ es, EntryOk Try.prog e) {h : Hint} {n : Nat} {c : Code} {ids adr live : List Nat} {t : List Value} {s : St} {e : AExit} {t2 : List Value} {s2 : St} (hP : stepP es h n c t s)
    (hv : stepV2 j es h n c ids adr live t s = some (e, t2, s2)) (hpl : plainBut adr 0 s2 = true) : RunsP c t s e t2 s2 := by
  unfold stepV2 at hv
  split at hv
  · rename_i hc
    simp only [Bool.and_eq_true] at hc
    split at hv
    · rename_i e1 t1 s1 h1
      split at hv
      · rename_i t3 s3 h2 h3
        simp at hv; obtain ⟨rfl, rfl, rfl⟩ := hv
        exact view2 (ex_runs hT (orc_ok hes) hmix hP h1) hc.1 hc.2.1 hc.2.2 h2 h3 hpl
      · cases hv
    · cases hv
  · cases hv
end Go.Proofs.Ytggkdjhgknghcaa.Run
