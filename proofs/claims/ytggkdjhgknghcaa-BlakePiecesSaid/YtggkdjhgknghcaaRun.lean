/- This text holds a part of the machinery of the proof, without conditions of its own: the abstract machine at this program. -/
import Derived.Test.YtggkdjhgknghcaaAmD
import Derived.Test.YtggkdjhgknghcaaProg
import Derived.KernelRfl
namespace Go.Proofs.Ytggkdjhgknghcaa.Run
open Am
noncomputable def T : Tab := tabOf Try.prog
theorem hT : TabOk Try.prog T := tabOf_ok _
theorem hmix : Try.prog.follows .mixedOrders = true := by kernel_rfl
noncomputable def body (f : Func) : Code := f.body.getD .skip
/-- A function's own body, run. -/
noncomputable def goF (es : List Entry) (n : Nat) (fn : Func) (args : List Value) (st : St) : Option (Value × St) := inl T (orc es) noHint n (body fn) fn.ntmps fn.results.toList args st
theorem body_some {fn : Func} (hb : fn.body.isNone = false) : fn.body = some (body fn) := by
  unfold body
  cases hq : fn.body with
  | none => rw [hq] at hb; cases hb
  | some c => rfl

theorem run_ok {es : List Entry} (hes : ∀ e ∈ es, EntryOk Try.prog e) {f : FuncId} {fn : Func} {n : Nat} (hf : Try.prog.funcs[f]? = some fn) (hb : fn.body.isNone = false) {a s r s'} (h : goF es n fn a s = some (r, s')) : AC Try.prog f a s r s' :=
  inl_ok hT (orc_ok hes) hmix hf (body_some hb) h

/-- The same, with what is told ahead; 'owes' is what is owed for it. -/
noncomputable def goFH (es : List Entry) (h : Hint) (n : Nat) (fn : Func) (args : List Value) (st : St) : Option (Value × St) := inl T (orc es) h n (body fn) fn.ntmps fn.results.toList args st
noncomputable def owes (es : List Entry) (h : Hint) (n : Nat) (fn : Func) (args : List Value) (st : St) : Prop := exP Try.prog T (orc es) h n (body fn) (args ++ List.replicate (fn.ntmps - args.length) undef) st True
theorem runH_ok {es : List Entry} (hes : ∀ e ∈ es, EntryOk Try.prog e) {f : FuncId} {fn : Func} {hint : Hint} {n : Nat} (hf : Try.prog.funcs[f]? = some fn) (hb : fn.body.isNone = false) {a s r s'} (hP : owes es hint n fn a s) (h : goFH es hint n fn a s = some (r, s')) : AC Try.prog f a s r s' :=
  inl_okP hT (orc_ok hes) hmix hf (body_some hb) hP h

theorem es0 : ∀ e ∈ ([] : List Entry), EntryOk Try.prog e := fun e h => by simp at h
theorem es1 {e1 : Entry} (h1 : EntryOk Try.prog e1) : ∀ e ∈ [e1], EntryOk Try.prog e := fun e h => by simp at h; subst h; exact h1
theorem esc {e1 : Entry} {es : List Entry} (h1 : EntryOk Try.prog e1) (h : ∀ e ∈ es, EntryOk Try.prog e) : ∀ e ∈ e1 :: es, EntryOk Try.prog e := fun e he => by
  rcases List.mem_cons.1 he with rfl | he
  · exact h1
  · exact h e he

/-- Run, and what the call made is forgotten. -/
noncomputable def goN (es : List Entry) (n : Nat) (fn : Func) (args : List Value) (st : St) : Option (Value × St) :=
  match goF es n fn args st with
  | some (r, s) => some (r, s.take st.length)
  | none => none
theorem runN_ok {es : List Entry} (hes : ∀ e ∈ es, EntryOk Try.prog e) {f : FuncId} {fn : Func} {n : Nat} (hf : Try.prog.funcs[f]? = some fn) (hb : fn.body.isNone = false) {a s r s'} (h : goN es n fn a s = some (r, s'))
    (hl : s'.length = s.length) (hp : s'.all plainReg = true) (hr : plain r = true) : AC Try.prog f a s r s' := by
  unfold goN at h
  split at h
  · rename_i r1 s1 h1
    simp at h; obtain ⟨rfl, rfl⟩ := h
    exact (run_ok hes hf hb h1).forget hl (by rw [hl]) hp hr
  · cases h
noncomputable def goNH (es : List Entry) (h : Hint) (n : Nat) (fn : Func) (args : List Value) (st : St) : Option (Value × St) :=
  match goFH es h n fn args st with
  | some (r, s) => some (r, s.take st.length)
  | none => none
theorem runNH_ok {es : List Entry} (hes : ∀ e ∈ es, EntryOk Try.prog e) {f : FuncId} {fn : Func} {hint : Hint} {n : Nat} (hf : Try.prog.funcs[f]? = some fn) (hb : fn.body.isNone = false) {a s r s'} (hP : owes es hint n fn a s) (h : goNH es hint n fn a s = some (r, s'))
    (hl : s'.length = s.length) (hp : s'.all plainReg = true) (hr : plain r = true) : AC Try.prog f a s r s' := by
  unfold goNH at h
  split at h
  · rename_i r1 s1 h1
    simp at h; obtain ⟨rfl, rfl⟩ := h
    exact (runH_ok hes hf hb hP h1).forget hl (by rw [hl]) hp hr
  · cases h
theorem body_of {f : FuncId} {fn : Func} (hf : Try.prog.funcs[f]? = some fn) (h1 : (fn.name == "runtime.NumGoroutine") = false) (h2 : fn.body.isNone = false) :
    ∃ fn, Try.prog.funcs[f]? = some fn ∧ (fn.name == "runtime.NumGoroutine") = false ∧ fn.body.isNone = false := ⟨fn, hf, h1, h2⟩
/-- The same, where the result is looked at for addresses. -/
noncomputable def goC (es : List Entry) (n : Nat) (fn : Func) (args : List Value) (st : St) : Option (Value × St) :=
  match goF es n fn args st with
  | some (r, s) => if st.length ≤ s.length ∧ (s.take st.length).all plainReg = true ∧ plain r = true then some (r, s.take st.length) else none
  | none => none
theorem runC_ok {es : List Entry} (hes : ∀ e ∈ es, EntryOk Try.prog e) {f : FuncId} {fn : Func} {n : Nat} (hf : Try.prog.funcs[f]? = some fn) (hb : fn.body.isNone = false) {a s r s'} (h : goC es n fn a s = some (r, s')) : AC Try.prog f a s r s' := by
  unfold goC at h
  split at h
  · rename_i r1 s1 h1
    split at h
    · rename_i hc
      simp at h; obtain ⟨rfl, rfl⟩ := h
      have hl : (s1.take s.length).length = s.length := by rw [List.length_take]; omega
      exact (run_ok hes hf hb h1).forget hl (by rw [hl]) hc.2.1 hc.2.2
    · cases h
  · cases h
theorem entryC {es : List Entry} (hes : ∀ e ∈ es, EntryOk Try.prog e) {f : FuncId} {fn : Func} {n : Nat} {ks : List AK} (hf : Try.prog.funcs[f]? = some fn) (hn : (fn.name == "runtime.NumGoroutine") = false) (hb : fn.body.isNone = false) :
    EntryOk Try.prog ⟨f, ks, goC es n fn⟩ := ⟨fun _ _ _ _ h => runC_ok hes hf hb h, body_of hf hn hb⟩

/-! Steps of loops. -/
noncomputable def stepV (es : List Entry) (h : Hint) (n : Nat) (c : Code) (ids adr live : List Nat) (t : List Value) (s : St) : ARes := exV T (orc es) h n c ids adr live t s
noncomputable def stepP (es : List Entry) (h : Hint) (n : Nat) (c : Code) (t : List Value) (s : St) : Prop := exP Try.prog T (orc es) h n c t s True
abbrev RunsP (c : Code) (t : List Value) (s : St) (e : AExit) (t' : List Value) (s' : St) : Prop := Runs Try.prog c t s e t' s'
theorem step_ok {es : List Entry} (hes : ∀ e ∈ es, EntryOk Try.prog e) {h : Hint} {n : Nat} {c : Code} {ids adr live : List Nat} {t : List Value} {s : St} {e : AExit} {t2 : List Value} {s2 : St} (hP : stepP es h n c t s)
    (hv : stepV es h n c ids adr live t s = some (e, t2, s2)) (hpl : plainBut adr 0 s2 = true) : RunsP c t s e t2 s2 := exV_runs hT (orc_ok hes) hmix hP hv hpl
theorem step0_ok {es : List Entry} (hes : ∀ e ∈ es, EntryOk Try.prog e) {n : Nat} {c : Code} {ids adr live : List Nat} {t : List Value} {s : St} {e : AExit} {t2 : List Value} {s2 : St}
    (hv : stepV es noHint n c ids adr live t s = some (e, t2, s2)) (hpl : plainBut adr 0 s2 = true) : RunsP c t s e t2 s2 := exV_runs0 hT (orc_ok hes) hmix hv hpl
end Go.Proofs.Ytggkdjhgknghcaa.Run
