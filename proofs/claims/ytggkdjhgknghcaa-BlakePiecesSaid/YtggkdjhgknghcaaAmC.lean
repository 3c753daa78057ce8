/- This text holds a part of the machinery of the proof, without conditions of its own: the abstract machine: regions (in whatever order they are drawn), code, functions. -/
import Derived.Test.YtggkdjhgknghcaaAmB
import Derived.LoopN
namespace Go.Proofs.Ytggkdjhgknghcaa.Am

/-- A slot of which nothing is known. -/
def unk : Value := .map (some 0)
def isUnk : Value → Bool
  | .map (some 0) => true
  | _ => false

def aeval (t : List Value) : Operand → Option Value
  | .tmp d => match t[d]? with
    | some v => if isUnk v then none else some v
    | none => none
  | .const v => if plain v then some v else none
  | .func f => some (.func (.func f) #[] #[])
  | .global _ => none

def aput (dst : Option Tmp) (v : Value) (t : List Value) : List Value :=
  match dst with
  | some d => t.set d v
  | none => t

/-- The test that guards an operation, if it is one of those that stand before it (and was made). -/
def ayield (ops : List Oper) (t : List Value) (j : Nat) : Option (Option Bool) :=
  match ops[j]? with
  | some o => match o.dst with
    | some d => match t[d]? with
      | some (.bool b) => some (some b)
      | some (.tuple ⟨[]⟩) => some none
      | _ => none
    | none => none
  | none => none

def astep (T : Tab) (O : Orc) (ops : List Oper) (o : Oper) (t : List Value) (s : St) : Option (Value × St × Info) :=
  match o.guard with
  | none => aop T O s (aeval t) o.op
  | some (j, want) => match ayield ops t j with
    | some b => if b == some want then aop T O s (aeval t) o.op else some (undef, s, .pure)
    | none => none

/-- In the text's order. -/
def aops (T : Tab) (O : Orc) (ops : List Oper) : List Oper → List Value → St → Option (List Info × List Value × St)
  | [], t, s => some ([], t, s)
  | o :: r, t, s => match astep T O ops o t s with
    | some (v, s', i) => match aops T O ops r (aput o.dst v t) s' with
      | some (is, t', s'') => some (i :: is, t', s'')
      | none => none
    | none => none

def VRt (μ : List Place) (x y : Value) : Prop := isUnk x = true ∨ VR μ x y
theorem VRt.mono {μ μ' x y} (he : Ext μ μ') (h : VRt μ x y) : VRt μ' x y := h.imp id (VR.mono he)
/-- Slots, one by one; of some nothing is known. -/
def VRts (μ : List Place) (xs ys : List Value) : Prop := xs.length = ys.length ∧ ∀ (i : Nat) x y, xs[i]? = some x → ys[i]? = some y → VRt μ x y
theorem VRs.ts {μ xs ys} (h : VRs μ xs ys) : VRts μ xs ys := ⟨h.1, fun i x y a b => .inr (h.2 i x y a b)⟩
theorem VRts.mono {μ μ'} (he : Ext μ μ') {xs ys} (h : VRts μ xs ys) : VRts μ' xs ys := ⟨h.1, fun i x y a b => (h.2 i x y a b).mono he⟩
theorem VRts.get {μ xs ys} (h : VRts μ xs ys) {i : Nat} {x} (hx : xs[i]? = some x) : ∃ y, ys[i]? = some y ∧ VRt μ x y := by
  have hl := (List.getElem?_eq_some_iff.1 hx).1
  have hl' : i < ys.length := h.1 ▸ hl
  exact ⟨ys[i], List.getElem?_eq_getElem hl', h.2 i x _ hx (List.getElem?_eq_getElem hl')⟩
theorem VRts.set {μ xs ys} (h : VRts μ xs ys) {a b} (hv : VR μ a b) (n : Nat) : VRts μ (xs.set n a) (ys.set n b) := by
  refine ⟨by simp [h.1], fun i x y hx hy => ?_⟩
  rw [List.getElem?_set] at hx hy
  by_cases e : n = i
  · subst e; rw [if_pos rfl] at hx hy
    split at hx <;> simp at hx
    split at hy <;> simp at hy
    subst hx; subst hy; exact .inr hv
  · rw [if_neg e] at hx hy; exact h.2 i x y hx hy
theorem aeval_tmp {t : List Value} {d : Nat} {v : Value} : aeval t (.tmp d) = some v ↔ t[d]? = some v ∧ isUnk v = false := by
  simp only [aeval]
  split
  · rename_i u hu
    split
    · rename_i h; simp [hu]; intro e; subst e; simp [h]
    · rename_i h
      simp only [hu, Option.some.injEq]
      constructor
      · rintro rfl; exact ⟨rfl, by simpa using h⟩
      · exact fun h => h.1
  · rename_i hu; simp [hu]

/-- A frame of the model, and the abstract one. -/
structure AR (μ : List Place) (t : List Value) (a : Act) : Prop where
  tmps : VRts μ t a.tmps.toList
  defers : a.defers = []

section
variable {P : Program} {T : Tab} (hT : TabOk P T) {O : Orc} (hO : OrcOk P O) {n b : Nat} {T0 : Nat → Nat → Prop} {w0 : World} {μ : List Place}

theorem aeval_sound {t : List Value} {a : Act} (h : VRts μ t a.tmps.toList) {x : Operand} {v : Value} (hx : aeval t x = some v) : VR μ v (a.eval x) := by
  cases x with
  | tmp d =>
    obtain ⟨hx, hu⟩ := aeval_tmp.1 hx
    obtain ⟨y, hy, hv⟩ := h.get hx
    have hv := hv.resolve_left (by rw [hu]; simp)
    have : a.tmps[d]? = some y := by simpa using hy
    simp [Act.eval, this]; exact hv
  | const u =>
    simp only [aeval] at hx
    split at hx
    · rename_i hp; simp at hx; subst hx; exact VR.plain hp
    · cases hx
  | func f =>
    simp only [aeval] at hx
    cases hx
    exact .func _ _ _ _ _ rfl (fun i x y h => by simp at h) rfl (fun i x y h => by simp at h)
  | global g => simp [aeval] at hx

theorem AR.put {t : List Value} {a : Act} (h : AR μ t a) {v v' : Value} (hv : VR μ v v') (dst : Option Tmp) : AR μ (aput dst v t) (a.put dst v') := by
  cases dst with
  | none => exact h
  | some d => exact ⟨by simp only [aput, Act.put, Array.toList_setIfInBounds]; exact h.tmps.set hv d, h.defers⟩
theorem AR.mono {μ'} (he : Ext μ μ') {t : List Value} {a : Act} (h : AR μ t a) : AR μ' t a := ⟨h.tmps.mono he, h.defers⟩

theorem ayield_sound {ops : Array Oper} {t : List Value} {tm : Array Value} (h : VRts μ t tm.toList) {j : Nat} {b : Option Bool} (hy : ayield ops.toList t j = some b) : yielded ops tm j = b := by
  unfold ayield at hy
  split at hy
  · rename_i o ho
    split at hy
    · rename_i d hd
      split at hy
      · rename_i c hc
        simp at hy; subst hy
        obtain ⟨y, hy, hv⟩ := h.get hc
        have hv := hv.resolve_left (by simp [isUnk])
        cases hv
        have h1 : ops[j]? = some o := by simpa using ho
        have h2 : tm[d]? = some (.bool c) := by simpa using hy
        simp [yielded, h1, hd, h2]
      · rename_i hc
        simp at hy; subst hy
        obtain ⟨y, hy, hv⟩ := h.get hc
        have hv := hv.resolve_left (by simp [isUnk])
        have h1 : ops[j]? = some o := by simpa using ho
        have h2 : tm[d]? = some y := by simpa using hy
        cases hv with
        | tuple _ ys hs _ =>
          unfold yielded
          simp [h1, hd, h2]
      · cases hy
    · cases hy
  · cases hy

include hT hO in
/-- One operation of a region, by what it looks at alone. -/
theorem astep_wp2 {ops : Array Oper} {i : Nat} {o : Oper} {st st' : St} {w : World} {t : List Value} {a : Act} {v : Value} {inf : Info} (hi : ops[i]? = some o)
    (h : astep T O ops.toList o t st = some (v, st', inf)) (hρ : ∀ x ∈ o.op.operands, ∀ va, aeval t x = some va → VR μ va (a.eval x))
    (hy : ∀ j want b, o.guard = some (j, want) → ayield ops.toList t j = some b → yielded ops a.tmps j = b) (hR : R n b T0 w0 μ st w) {K : Act → World → Prop} {Q : Exit → Act → World → Prop}
    (hK : ∀ μ' r w', Ext μ μ' → VR μ' v r → R n b T0 w0 μ' st' w' → K (a.put o.dst r) w') : wpOp P ops Q i K a w := by
  unfold wpOp
  simp only [hi]
  unfold astep at h
  split at h
  · rename_i hg
    have : Region.wanted o (yielded ops a.tmps) = true := by simp [Region.wanted, hg]
    rw [if_pos this]
    exact .inl (aop_wp hT hO h hρ hR hK)
  · rename_i j want hg
    split at h
    · rename_i b hb
      have hy := hy j want b hg hb
      split at h
      · rename_i hbw
        have : Region.wanted o (yielded ops a.tmps) = true := by simp only [Region.wanted, hg, hy]; simpa using hbw
        rw [if_pos this]
        exact .inl (aop_wp hT hO h hρ hR hK)
      · rename_i hbw
        simp at h; obtain ⟨rfl, rfl, rfl⟩ := h
        have : Region.wanted o (yielded ops a.tmps) = false := by simp only [Region.wanted, hg, hy]; simpa using hbw
        rw [if_neg (by simp [this])]
        exact hK μ _ w (Ext.refl _) .undef hR
    · cases h

include hT hO in
/-- One operation of a region. -/
theorem astep_wp {ops : Array Oper} {i : Nat} {o : Oper} {st st' : St} {w : World} {t : List Value} {a : Act} {v : Value} {inf : Info} (hi : ops[i]? = some o)
    (h : astep T O ops.toList o t st = some (v, st', inf)) (ha : AR μ t a) (hR : R n b T0 w0 μ st w) {K : Act → World → Prop} {Q : Exit → Act → World → Prop}
    (hK : ∀ μ' a' w', Ext μ μ' → AR μ' (aput o.dst v t) a' → R n b T0 w0 μ' st' w' → K a' w') : wpOp P ops Q i K a w :=
  astep_wp2 hT hO hi h (fun x _ va hx => aeval_sound ha.tmps hx) (fun j _ b _ hb => ayield_sound ha.tmps hb) hR fun μ' r w' h1 h2 h3 => hK μ' _ w' h1 ((ha.mono h1).put h2 o.dst) h3

include hT hO in
theorem aops_wp {ops : Array Oper} {Q : Exit → Act → World → Prop} : ∀ (rest : List Oper) (i : Nat) (t : List Value) (st : St) (is : List Info) (t' : List Value) (st' : St) (μ : List Place) (a : Act) (w : World),
    (∀ j o, rest[j]? = some o → ops[i + j]? = some o) → i + rest.length = ops.size → aops T O ops.toList rest t st = some (is, t', st') → AR μ t a → R n b T0 w0 μ st w →
    (∀ μ' a' w', Ext μ μ' → AR μ' t' a' → R n b T0 w0 μ' st' w' → Q .normal a' w') → wpOps P ops Q (List.range' i rest.length) a w := by
  intro rest
  induction rest with
  | nil =>
    intro i t st is t' st' μ a w _ _ h ha hR hQ
    simp [aops] at h; obtain ⟨rfl, rfl, rfl⟩ := h
    exact hQ μ a w (Ext.refl _) ha hR
  | cons o r ih =>
    intro i t st is t' st' μ a w hget hsz h ha hR hQ
    simp only [aops] at h
    split at h
    · rename_i v s1 inf h1
      split at h
      · rename_i is2 t2 s2 h2
        simp at h; obtain ⟨rfl, rfl, rfl⟩ := h
        rw [List.length_cons, List.range'_succ, wpOps_cons]
        refine astep_wp hT hO (by simpa using hget 0 o rfl) h1 ha hR ?_
        intro μ' a' w' e1 e2 e3
        refine ih (i + 1) _ _ _ _ _ μ' a' w' (fun j o' hj => ?_) (by simp at hsz; omega) h2 e2 e3 fun μ2 a2 w2 f1 f2 f3 => hQ μ2 a2 w2 (e1.trans f1) f2 f3
        have := hget (j + 1) o' (by simpa using hj)
        rw [show i + 1 + j = i + (j + 1) from by omega]; exact this
      · cases h
    · cases h

include hT hO in
theorem region_wp {ops : Array Oper} {id : Nat} {Q : Exit → Act → World → Prop} {t t' : List Value} {st st' : St} {is : List Info} {a : Act} {w : World}
    (h : aops T O ops.toList ops.toList t st = some (is, t', st')) (ha : AR μ t a) (hR : R n b T0 w0 μ st w)
    (hQ : ∀ μ' a' w', Ext μ μ' → AR μ' t' a' → R n b T0 w0 μ' st' w' → Q .normal a' w') : (Code.region id ops false).wp P Q a w := by
  refine wp_region ?_
  have := aops_wp (ops := ops) (Q := Q) hT hO ops.toList 0 t st is t' st' μ a w (fun j o hj => by simpa using hj) (by simp) h ha hR hQ
  rw [List.range_eq_range']
  simpa using this
end
end Go.Proofs.Ytggkdjhgknghcaa.Am

namespace Go.Proofs.Ytggkdjhgknghcaa.Am
open Region (binds)

/-! ### What stands before what -/
inductive Reach (ops : List Oper) : Nat → Nat → Prop
  | one {i j : Nat} {o e} : ops[i]? = some o → e ∈ o.after → binds .any e = true → e.on = j → Reach ops i j
  | more {i j k : Nat} {o e} : ops[i]? = some o → e ∈ o.after → binds .any e = true → e.on = k → Reach ops k j → Reach ops i j

def mask (acc : List Nat) (es : List Edge) : Nat := es.foldl (fun s e => if binds .any e then s ||| (2 ^ e.on ||| (acc[e.on]?).getD 0) else s) 0

def befGo : List Oper → List Nat → List Nat
  | [], acc => acc
  | o :: r, acc => befGo r (acc ++ [mask acc o.after.toList])

theorem mask_spec (acc : List Nat) (j : Nat) : ∀ (es : List Edge) (s : Nat), (es.foldl (fun s e => if binds .any e then s ||| (2 ^ e.on ||| (acc[e.on]?).getD 0) else s) s).testBit j = true →
    s.testBit j = true ∨ ∃ e ∈ es, binds .any e = true ∧ (e.on = j ∨ ∃ m, acc[e.on]? = some m ∧ m.testBit j = true) := by
  intro es
  induction es with
  | nil => intro s h; exact .inl h
  | cons e r ih =>
    intro s h
    rw [List.foldl_cons] at h
    rcases ih _ h with h1 | ⟨e', he, hb, hj⟩
    · by_cases hb : binds .any e = true
      · rw [if_pos hb, Nat.testBit_or, Nat.testBit_or] at h1
        simp only [Bool.or_eq_true] at h1
        rcases h1 with h1 | h1 | h1
        · exact .inl h1
        · rw [Nat.testBit_two_pow] at h1
          exact .inr ⟨e, by simp, hb, .inl (by simpa using h1)⟩
        · cases hm : acc[e.on]? with
          | none => rw [hm] at h1; simp at h1
          | some m => rw [hm] at h1; exact .inr ⟨e, by simp, hb, .inr ⟨m, hm, h1⟩⟩
      · rw [if_neg hb] at h1; exact .inl h1
    · exact .inr ⟨e', by simp [he], hb, hj⟩

theorem befGo_spec (ops : List Oper) : ∀ (rest : List Oper) (acc : List Nat), (∀ (j : Nat) o, rest[j]? = some o → ops[acc.length + j]? = some o) →
    (∀ (i : Nat) m, acc[i]? = some m → ∀ j, m.testBit j = true → Reach ops i j) → ∀ (i : Nat) m, (befGo rest acc)[i]? = some m → ∀ j, m.testBit j = true → Reach ops i j := by
  intro rest
  induction rest with
  | nil => intro acc _ h; exact h
  | cons o r ih =>
    intro acc hg h
    simp only [befGo]
    refine ih _ (fun j o' hj => ?_) ?_
    · have := hg (j + 1) o' (by simpa using hj)
      rw [List.length_append, List.length_singleton, Nat.add_assoc, Nat.add_comm 1]; exact this
    · intro i m hi j hj
      rw [List.getElem?_append] at hi
      split at hi
      · exact h i m hi j hj
      · rename_i hlt
        have hi0 : i - acc.length = 0 := by have := (List.getElem?_eq_some_iff.1 hi).1; simp at this; omega
        rw [hi0] at hi; simp at hi
        have hia : i = acc.length := by omega
        subst hia
        have ho := hg 0 o rfl
        rw [Nat.add_zero] at ho
        subst hi
        rcases mask_spec acc j _ 0 hj with h0 | ⟨e, he, hb, hj⟩
        · simp at h0
        · rcases hj with hj | ⟨m, hm, hmj⟩
          · exact .one ho (by simpa using he) hb hj
          · exact .more ho (by simpa using he) hb rfl (h _ m hm j hmj)

theorem Reach.closed {ops : List Oper} {L : Nat → Prop} (hc : ∀ (k : Nat) o e, L k → ops[k]? = some o → e ∈ o.after → binds .any e = true → L e.on) {i j : Nat}
    (h : Reach ops i j) (hi : ∀ o e, ops[i]? = some o → e ∈ o.after → binds .any e = true → L e.on) : L j := by
  induction h with
  | one ho he hb hj => subst hj; exact hi _ _ ho he hb
  | more ho he hb hk _ ih =>
    subst hk
    exact ih fun o' e' ho' he' hb' => hc _ o' e' (hi _ _ ho he hb) ho' he' hb'

/-! ### The checks -/
def looks (ops : List Oper) (o : Oper) : List Tmp :=
  (o.op.operands.toList.filterMap fun | .tmp t => some t | _ => none) ++ (match o.guard with
    | some (g, _) => match ops[g]? with
      | some og => og.dst.toList
      | none => []
    | none => [])

def clash : Info → Info → Bool
  | .eff _ _, .eff _ _ => true
  | .load rs, .eff f l => rs.any fun r => f.contains r || decide (l ≤ r)
  | .eff f l, .load rs => rs.any fun r => f.contains r || decide (l ≤ r)
  | _, _ => false

/-- Operation i (behind): all that stands ahead of it in the text and meets it is told by an edge. -/
def pairsOk (ops : List Oper) (oi : Oper) (ii : Info) (m : Nat) : List Oper → List Info → Nat → Bool
  | oj :: r, ij :: s, j =>
    (match oj.dst with
      | some d => oi.dst != some d && (!(looks ops oi).contains d || m.testBit j)
      | none => true) &&
    (match oi.dst with
      | some d => !(looks ops oj).contains d || m.testBit j
      | none => true) &&
    (!clash ij ii || m.testBit j) && pairsOk ops oi ii m r s (j + 1)
  | _, _, _ => true

def allOk (ops : List Oper) (masks : List Nat) (is : List Info) : List Oper → List Info → List Nat → Nat → Bool
  | oi :: r, ii :: s, m :: ms, i =>
    oi.after.toList.all (fun e => !binds .any e || decide (e.on < i)) && pairsOk ops oi ii m (ops.take i) (is.take i) 0 && allOk ops masks is r s ms (i + 1)
  | [], _, _, _ => true
  | _, _, _, _ => false

def drawOk (ops : List Oper) (is : List Info) : Bool := let ms := befGo ops []; allOk ops ms is ops is ms 0

theorem pairsOk_spec {ops : List Oper} {oi : Oper} {ii : Info} {m : Nat} : ∀ {os : List Oper} {is : List Info} {j : Nat}, pairsOk ops oi ii m os is j = true → ∀ (k : Nat) oj ij, os[k]? = some oj → is[k]? = some ij →
    (∀ d, oj.dst = some d → oi.dst ≠ some d ∧ (d ∈ looks ops oi → m.testBit (j + k) = true)) ∧ (∀ d, oi.dst = some d → d ∈ looks ops oj → m.testBit (j + k) = true) ∧ (clash ij ii = true → m.testBit (j + k) = true) := by
  intro os
  induction os with
  | nil => intro is j _ k oj ij h; simp at h
  | cons o r ih =>
    intro is j h k oj ij hk hk2
    cases is with
    | nil => simp at hk2
    | cons i s =>
      simp only [pairsOk, Bool.and_eq_true] at h
      obtain ⟨⟨⟨h1, h2⟩, h3⟩, h4⟩ := h
      cases k with
      | zero =>
        simp at hk hk2; subst hk; subst hk2
        rw [Nat.add_zero]
        refine ⟨fun d hd => ?_, fun d hd hm => ?_, fun hc => ?_⟩
        · rw [hd] at h1
          simp only [Bool.and_eq_true, bne_iff_ne, ne_eq, Bool.or_eq_true, Bool.not_eq_true', List.contains_eq_mem, decide_eq_false_iff_not] at h1
          exact ⟨h1.1, fun hm => h1.2.resolve_left (fun hn => hn hm)⟩
        · rw [hd] at h2
          simp only [Bool.or_eq_true, Bool.not_eq_true', List.contains_eq_mem, decide_eq_false_iff_not] at h2
          exact h2.resolve_left (fun hn => hn hm)
        · rw [hc] at h3; simpa using h3
      | succ k =>
        have := ih h4 k oj ij (by simpa using hk) (by simpa using hk2)
        rw [show j + (k + 1) = j + 1 + k from by omega]; exact this

theorem allOk_spec {ops : List Oper} {masks : List Nat} {is : List Info} : ∀ {os : List Oper} {si : List Info} {ms : List Nat} {i : Nat}, allOk ops masks is os si ms i = true → ∀ (k : Nat) o, os[k]? = some o →
    ∃ ii m, si[k]? = some ii ∧ ms[k]? = some m ∧ (∀ e ∈ o.after, binds .any e = true → e.on < i + k) ∧ pairsOk ops o ii m (ops.take (i + k)) (is.take (i + k)) 0 = true := by
  intro os
  induction os with
  | nil => intro si ms i _ k o h; simp at h
  | cons o r ih =>
    intro si ms i h k o' hk
    cases si with
    | nil => simp [allOk] at h
    | cons ii s =>
      cases ms with
      | nil => simp [allOk] at h
      | cons m ms =>
        simp only [allOk, Bool.and_eq_true] at h
        obtain ⟨⟨h1, h2⟩, h3⟩ := h
        cases k with
        | zero =>
          simp at hk; subst hk
          refine ⟨ii, m, rfl, rfl, ?_, h2⟩
          intro e he hb
          have := List.all_eq_true.1 h1 e (by simpa using he)
          simpa [hb] using this
        | succ k =>
          obtain ⟨ii', m', a, b, c, d⟩ := ih h3 k o' (by simpa using hk)
          rw [show i + 1 + k = i + (k + 1) from by omega] at c d
          exact ⟨ii', m', by simpa using a, by simpa using b, c, d⟩

/-! ### The trace of a run in the text's order -/
section
variable {T : Tab} {O : Orc}
theorem aops_trace {ops : List Oper} : ∀ {rest : List Oper} {t : List Value} {s : St} {is : List Info} {t' : List Value} {s' : St}, aops T O ops rest t s = some (is, t', s') →
    ∃ (tt : Nat → List Value) (ss : Nat → St) (vv : Nat → Value), tt 0 = t ∧ ss 0 = s ∧ tt rest.length = t' ∧ ss rest.length = s' ∧ is.length = rest.length ∧
      ∀ (i : Nat) o, rest[i]? = some o → ∃ inf, is[i]? = some inf ∧ astep T O ops o (tt i) (ss i) = some (vv i, ss (i + 1), inf) ∧ tt (i + 1) = aput o.dst (vv i) (tt i) := by
  intro rest
  induction rest with
  | nil =>
    intro t s is t' s' h
    simp [aops] at h; obtain ⟨rfl, rfl, rfl⟩ := h
    exact ⟨fun _ => t, fun _ => s, fun _ => undef, rfl, rfl, rfl, rfl, rfl, fun i o h => by simp at h⟩
  | cons o r ih =>
    intro t s is t' s' h
    simp only [aops] at h
    split at h
    · rename_i v s1 inf h1
      split at h
      · rename_i is2 t2 s2 h2
        simp at h; obtain ⟨rfl, rfl, rfl⟩ := h
        obtain ⟨tt, ss, vv, a1, a2, a3, a4, a5, a6⟩ := ih h2
        refine ⟨fun i => match i with | 0 => t | i + 1 => tt i, fun i => match i with | 0 => s | i + 1 => ss i, fun i => match i with | 0 => v | i + 1 => vv i, rfl, rfl, a3, a4, by simp [a5], ?_⟩
        intro i o' hi
        cases i with
        | zero =>
          simp at hi; subst hi
          exact ⟨inf, rfl, by simp only [a2]; exact h1, by simp only [a1]⟩
        | succ i =>
          obtain ⟨inf', b1, b2, b3⟩ := a6 i o' (by simpa using hi)
          exact ⟨inf', by simpa using b1, b2, b3⟩
      · cases h
    · cases h

theorem wr_keep {st st' : St} {i off : Nat} {vs : List Value} (h : wr st i off vs = some st') (r : Nat) (hr : r ≠ i) : st'[r]? = st[r]? := by
  unfold wr at h
  split at h
  · split at h
    · simp at h; subst h
      rw [List.getElem?_set, if_neg (fun e => hr e.symm)]
    · cases h
  · cases h
theorem snoc_keep {st : St} {x : Option Reg} {r : Nat} (h : r < st.length) : (st ++ [x])[r]? = st[r]? := List.getElem?_append_left h

theorem appendCore_keep {st st' : St} {size bytes : Nat} {z s v : Value} {src : Option (Nat × List Value)} {foot : List Nat} (h : appendCore st size bytes z s src = some (v, st', foot)) {r : Nat} (hr : r < st.length) (hf : r ∉ foot) : st'[r]? = st[r]? := by
  unfold appendCore at h
  split at h
  · split at h
    · cases h
    · split at h
      · split at h
        · simp at h; obtain ⟨rfl, rfl, rfl⟩ := h; exact snoc_keep hr
        · cases h
      · split at h
        · split at h
          · simp at h; obtain ⟨rfl, rfl, rfl⟩ := h
            rw [snoc_keep (by simpa using hr), List.getElem?_set, if_neg (fun e => hf (by simp [e]))]
          · cases h
        · cases h
      · cases h
  · cases h
theorem aeff_keep (hk : ∀ f args st res st', O.run f args st = some (res, st') → ∀ r, r < st.length → r ∉ O.foot f args st → st'[r]? = st[r]?) {st st' : St} {ρ : Operand → Option Value} {op : Op} {v : Value} {foot : List Nat} (h : aeff T O st ρ op = some (v, st', foot)) (r : Nat) (hr : r < st.length) (hf : r ∉ foot) : st'[r]? = st[r]? := by
  cases op with
  | alloc e =>
    simp only [aeff] at h
    split at h
    · split at h
      · simp at h; obtain ⟨rfl, rfl, rfl⟩ := h; exact snoc_keep hr
      · cases h
    · cases h
  | box e x =>
    simp only [aeff] at h
    split at h
    · simp at h; obtain ⟨rfl, rfl, rfl⟩ := h; exact snoc_keep hr
    · cases h
  | store t ad x =>
    simp only [aeff, storeCore] at h
    split at h
    · split at h
      · split at h
        · rename_i st2 hw
          simp at h; obtain ⟨rfl, rfl, rfl⟩ := h
          exact wr_keep hw r (by simpa using hf)
        · cases h
      · cases h
    · cases h
  | buildSlice t len ps =>
    simp only [aeff, abuildSlice] at h
    split at h
    · split at h
      · split at h
        · split at h
          · cases h
          · split at h
            · split at h
              · split at h
                · simp at h; obtain ⟨rfl, rfl, rfl⟩ := h; exact snoc_keep hr
                · cases h
              · cases h
            · cases h
        · cases h
      · cases h
    · cases h
  | makeSlice t l c =>
    simp only [aeff, amake, makeCore] at h
    split at h
    · split at h
      · split at h
        · split at h
          · split at h
            · simp at h; obtain ⟨rfl, rfl, rfl⟩ := h; exact snoc_keep hr
            · cases h
          · cases h
        · cases h
      · cases h
    · cases h
  | convert src dst x =>
    simp only [aeff, abytes] at h
    split at h
    · split at h
      · split at h
        · simp at h; obtain ⟨rfl, rfl, rfl⟩ := h; exact snoc_keep hr
        · cases h
      · split at h
        · split at h
          · simp at h; obtain ⟨rfl, rfl, rfl⟩ := h
            rw [snoc_keep (by simpa using hr), List.getElem?_set, if_neg (fun e => hf (by simp [e]))]
          · cases h
        · cases h
      · cases h
    · cases h
  | call c =>
    obtain ⟨callee, args, ts⟩ := c
    cases callee with
    | builtin b =>
      cases b with
      | append =>
        simp only [aeff] at h
        split at h
        · split at h
          · unfold aappend at h
            split at h
            · split at h
              · split at h
                · exact appendCore_keep h hr hf
                · cases h
              · split at h
                · exact appendCore_keep h hr hf
                · cases h
            · cases h
          · cases h
        · cases h
      | copy =>
        simp only [aeff] at h
        split at h
        · split at h
          · unfold acopy at h
            split at h
            · split at h
              · split at h
                · split at h
                  · split at h
                    · split at h
                      · split at h
                        · rename_i st2 hw
                          simp at h; obtain ⟨rfl, rfl, rfl⟩ := h
                          exact wr_keep hw r (by simpa using hf)
                        · cases h
                      · cases h
                    · split at h
                      · simp at h; obtain ⟨rfl, rfl, rfl⟩ := h; rfl
                      · cases h
                  · split at h
                    · simp at h; obtain ⟨rfl, rfl, rfl⟩ := h; rfl
                    · cases h
                · cases h
              · cases h
            · cases h
          · cases h
        · cases h
      | clear =>
        simp only [aeff] at h
        split at h
        · split at h
          · unfold aclear at h
            split at h
            · split at h
              · split at h
                · split at h
                  · split at h
                    · split at h
                      · rename_i st2 hw
                        simp at h; obtain ⟨rfl, rfl, rfl⟩ := h
                        exact wr_keep hw r (by simpa using hf)
                      · cases h
                    · split at h
                      · simp at h; obtain ⟨rfl, rfl, rfl⟩ := h; rfl
                      · cases h
                  · cases h
                · cases h
              · cases h
            · cases h
          · cases h
        · cases h
      | _ => simp [aeff] at h
    | value f =>
      simp only [aeff] at h
      split at h
      · unfold acall at h
        split at h
        · split at h
          · rename_i v2 st2 hrun
            cases h
            exact hk _ _ _ _ _ hrun r hr hf
          · cases h
        · cases h
      · cases h
    | invoke _ _ => simp [aeff] at h
  | _ => simp [aeff] at h

theorem aload_congr {s1 s2 : St} {t : TypeId} {u v : Value} {r : Nat} (h : aload T s1 t u = some (v, r)) (he : s2[r]? = s1[r]?) : aload T s2 t u = some (v, r) := by
  unfold aload at h ⊢
  simp only [cellAt] at h ⊢
  split at h
  · rename_i i off
    split at h
    · rename_i d hd
      split at h
      · rename_i hag
        split at h
        · rename_i n hn
          split at h
          · rename_i vs hvs
            simp at h; obtain ⟨rfl, rfl⟩ := h
            have : rd s2 i off n = some vs := by
              unfold rd at hvs ⊢; rw [he]; exact hvs
            simp [hd, hag, hn, this]
          · cases h
        · cases h
      · rename_i hag
        split at h
        · rename_i rg hrg
          split at h
          · rename_i x hx
            simp at h; obtain ⟨rfl, rfl⟩ := h
            simp [hd, hag, he, hrg, hx]
          · cases h
        · cases h
    · cases h
  · cases h

/-- What a step hangs on, by its kind. -/
theorem astep_kind (hk : ∀ f args st res st', O.run f args st = some (res, st') → ∀ r, r < st.length → r ∉ O.foot f args st → st'[r]? = st[r]?)
    (hrd : ∀ f args st res st' rs, O.run f args st = some (res, st') → O.reads f args = some rs → st'.length = st.length → st' = st ∧ ∀ s2 : St, (∀ r ∈ rs, s2[r]? = st[r]?) → O.run f args s2 = some (res, s2)) {ops : List Oper} {o : Oper} {t : List Value} {s s' : St} {v : Value} {inf : Info} (h : astep T O ops o t s = some (v, s', inf)) :
    (inf = .pure ∧ s' = s ∧ ∀ s2, astep T O ops o t s2 = some (v, s2, .pure)) ∨
    (∃ rs, inf = .load rs ∧ s' = s ∧ ∀ s2 : St, (∀ r ∈ rs, s2[r]? = s[r]?) → astep T O ops o t s2 = some (v, s2, .load rs)) ∨
    (∃ f, inf = .eff f s.length ∧ ∀ r, r < s.length → r ∉ f → s'[r]? = s[r]?) := by
  have key : ∀ {v s' inf}, aop T O s (aeval t) o.op = some (v, s', inf) →
      (inf = .pure ∧ s' = s ∧ ∀ s2, aop T O s2 (aeval t) o.op = some (v, s2, .pure)) ∨
      (∃ rs, inf = .load rs ∧ s' = s ∧ ∀ s2 : St, (∀ r ∈ rs, s2[r]? = s[r]?) → aop T O s2 (aeval t) o.op = some (v, s2, .load rs)) ∨
      (∃ f, inf = .eff f s.length ∧ ∀ r, r < s.length → r ∉ f → s'[r]? = s[r]?) := by
    intro v s' inf h
    unfold aop at h
    split at h
    · rename_i u hu
      simp at h; obtain ⟨rfl, rfl, rfl⟩ := h
      exact .inl ⟨rfl, rfl, fun s2 => by unfold aop; rw [hu]⟩
    · rename_i hnone
      split at h
      · rename_i ty ad hop
        split at h
        · rename_i u hu
          split at h
          · rename_i v2 r hl
            simp at h; obtain ⟨rfl, rfl, rfl⟩ := h
            refine .inr (.inl ⟨[r], rfl, rfl, fun s2 he => ?_⟩)
            unfold aop
            rw [hnone, hop]
            simp only [hu, aload_congr hl (he r (by simp))]
          · cases h
        · cases h
      · rename_i hnl
        unfold aeffI effI at h
        split at h
        · rename_i v2 s2 f he
          have eff : some (v2, s2, Info.eff f s.length) = some (v, s', inf) → ∃ f, inf = .eff f s.length ∧ ∀ r, r < s.length → r ∉ f → s'[r]? = s[r]? := fun h => by
            simp at h; obtain ⟨rfl, rfl, rfl⟩ := h
            exact ⟨f, rfl, fun r hr hf => aeff_keep hk he r hr hf⟩
          split at h
          · rename_i rs hrs
            split at h
            · rename_i hlen
              simp at h; obtain ⟨rfl, rfl, rfl⟩ := h
              -- a call that only looks
              have hrs0 := hrs
              unfold areads at hrs
              split at hrs
              · rename_i ff args ts hop
                split at hrs
                · rename_i g first captured vs e1 e2
                  rw [hop] at he
                  simp only [aeff, e1, e2, acall] at he
                  split at he
                  · rename_i v3 s3 hrun
                    simp at he; obtain ⟨rfl, rfl, rfl⟩ := he
                    obtain ⟨h1, h2⟩ := hrd _ _ _ _ _ _ hrun hrs hlen
                    refine .inr (.inl ⟨rs, rfl, h1, fun s4 he4 => ?_⟩)
                    unfold aop
                    rw [hnone, hop]
                    simp only
                    unfold aeffI effI
                    rw [hop] at hrs0
                    simp only [aeff, e1, e2, acall, h2 s4 he4, hrs0, if_true]
                  · cases he
                · cases hrs
              · cases hrs
            · exact .inr (.inr (eff h))
          · exact .inr (.inr (eff h))
        · cases h
  cases hg : o.guard with
  | none =>
    have e : ∀ s2, astep T O ops o t s2 = aop T O s2 (aeval t) o.op := fun s2 => by unfold astep; rw [hg]
    simp only [e] at h ⊢
    exact key h
  | some g =>
    obtain ⟨j, want⟩ := g
    cases hb : ayield ops t j with
    | none =>
      have e : astep T O ops o t s = none := by unfold astep; rw [hg]; simp only [hb]
      rw [e] at h; cases h
    | some b =>
      by_cases hbw : (b == some want) = true
      · have e : ∀ s2, astep T O ops o t s2 = aop T O s2 (aeval t) o.op := fun s2 => by unfold astep; rw [hg]; simp only [hb]; rw [if_pos hbw]
        simp only [e] at h ⊢
        exact key h
      · have e : ∀ s2, astep T O ops o t s2 = some (undef, s2, .pure) := fun s2 => by unfold astep; rw [hg]; simp only [hb]; rw [if_neg hbw]
        rw [e] at h
        simp at h; obtain ⟨rfl, rfl, rfl⟩ := h
        exact .inl ⟨rfl, rfl, e⟩
end
end Go.Proofs.Ytggkdjhgknghcaa.Am

namespace Go.Proofs.Ytggkdjhgknghcaa.Am
open Region (binds)

def Lst (listed : Array Bool) (j : Nat) : Prop := listed.getD j false = true

theorem Lst.set {listed : Array Bool} {i j : Nat} (hi : i < listed.size) : Lst (listed.setIfInBounds i true) j ↔ j = i ∨ Lst listed j := by
  unfold Lst
  by_cases e : i = j
  · subst e; simp [hi]
  · rw [getD_set_ne false e]
    constructor
    · exact .inr
    · rintro (h | h)
      · exact absurd h.symm e
      · exact h

/-- What a slot holds when the operations of L have run. -/
def SV (ops : List Oper) (t0 : List Value) (vv : Nat → Value) (L : Nat → Prop) (d : Nat) (x : Value) : Prop :=
  (∃ (j : Nat) (o : Oper), L j ∧ ops[j]? = some o ∧ o.dst = some d ∧ d < t0.length ∧ x = vv j) ∨ ((∀ (j : Nat) (o : Oper), L j → ops[j]? = some o → o.dst ≠ some d) ∧ t0[d]? = some x)

theorem count_lt {p q : Nat → Bool} : ∀ (l : List Nat) (i : Nat), i ∈ l → p i = true → q i = false → (∀ j, q j = true → p j = true) → l.countP q < l.countP p := by
  intro l
  induction l with
  | nil => intro i h; simp at h
  | cons a r ih =>
    intro i hi hp hq himp
    have hle : ∀ (l : List Nat), l.countP q ≤ l.countP p := fun l => List.countP_mono_left fun j _ h => himp j h
    rw [List.countP_cons, List.countP_cons]
    rcases List.mem_cons.1 hi with rfl | hi
    · have := hle r
      rw [if_neg (by simp [hq]), if_pos hp]
      omega
    · have := ih i hi hp hq himp
      by_cases hqa : q a = true
      · rw [if_pos hqa, if_pos (himp a hqa)]; omega
      · rw [if_neg hqa]; omega

section
variable {P : Program} {T : Tab} (hT : TabOk P T) {O : Orc} (hO : OrcOk P O) {n b : Nat} {T0 : Nat → Nat → Prop} {w0 : World}

include hT hO in
theorem draw_wp {ops : Array Oper} {id : Nat} {Q : Exit → Act → World → Prop} {t t' : List Value} {st st' : St} {is : List Info} {μ : List Place} {a : Act} {w : World} (hmix : P.follows .mixedOrders = true)
    (h : aops T O ops.toList ops.toList t st = some (is, t', st')) (hok : drawOk ops.toList is = true) (ha : AR μ t a) (hR : R n b T0 w0 μ st w)
    (hQ : ∀ μ' a' w', Ext μ μ' → AR μ' t' a' → R n b T0 w0 μ' st' w' → Q .normal a' w') : (Code.region id ops true).wp P Q a w := by
  refine wp_region_any hmix ?_
  obtain ⟨tt, ss, vv, htt0, hss0, httn, hssn, hisl, htr⟩ := aops_trace h
  have hop : ∀ (i : Nat) o, ops[i]? = some o ↔ ops.toList[i]? = some o := fun i o => by simp
  -- the checks
  have hchk : ∀ (i : Nat) o, ops[i]? = some o → ∃ (ii : Info) (m : Nat), is[i]? = some ii ∧ (∀ j, m.testBit j = true → Reach ops.toList i j) ∧ (∀ e ∈ o.after, binds .any e = true → e.on < i) ∧
      ∀ (k : Nat) oj ij, k < i → ops[k]? = some oj → is[k]? = some ij →
        (∀ d, oj.dst = some d → o.dst ≠ some d ∧ (d ∈ looks ops.toList o → m.testBit k = true)) ∧ (∀ d, o.dst = some d → d ∈ looks ops.toList oj → m.testBit k = true) ∧ (clash ij ii = true → m.testBit k = true) := by
    intro i o ho
    obtain ⟨ii, m, h1, h2, h3, h4⟩ := allOk_spec hok i o ((hop i o).1 ho)
    refine ⟨ii, m, h1, befGo_spec ops.toList ops.toList [] (fun j o h => by simpa using h) (fun i m h => by simp at h) i m h2, by simpa using h3, ?_⟩
    intro k oj ij hk hoj hij
    have := pairsOk_spec h4 k oj ij (by rw [List.getElem?_take, if_pos (by omega)]; exact (hop k oj).1 hoj) (by rw [List.getElem?_take, if_pos (by omega)]; exact hij)
    simpa using this
  -- what a slot holds in the text's order
  have hlen : ∀ i, i ≤ ops.size → (tt i).length = t.length := by
    intro i
    induction i with
    | zero => intro _; rw [htt0]
    | succ i ih =>
      intro hi
      obtain ⟨inf, _, _, h3⟩ := htr i ops[i] ((hop _ _).1 (Array.getElem?_eq_getElem (by omega)))
      rw [h3]
      have := ih (by omega)
      cases hd : (ops[i]).dst with
      | none => simpa [aput, hd] using this
      | some d => simpa [aput, hd] using this
  have hSV : ∀ i, i ≤ ops.size → ∀ d x, (tt i)[d]? = some x → SV ops.toList t vv (· < i) d x := by
    intro i
    induction i with
    | zero =>
      intro _ d x hx
      rw [htt0] at hx
      exact .inr ⟨fun j o hj => absurd hj (Nat.not_lt_zero _), hx⟩
    | succ i ih =>
      intro hi d x hx
      have hio := (hop i _).1 (Array.getElem?_eq_getElem (show i < ops.size by omega))
      obtain ⟨inf, _, _, h3⟩ := htr i _ hio
      rw [h3] at hx
      have other : (ops[i]).dst ≠ some d → (tt i)[d]? = some x → SV ops.toList t vv (· < i + 1) d x := by
        intro hne hx
        rcases ih (by omega) d x hx with ⟨j, o, hj, ho, hd, hl, he⟩ | ⟨hn, ht⟩
        · exact .inl ⟨j, o, Nat.lt_succ_of_lt hj, ho, hd, hl, he⟩
        · refine .inr ⟨fun j o hj ho => ?_, ht⟩
          rcases Nat.lt_or_eq_of_le (Nat.le_of_lt_succ hj) with hj | rfl
          · exact hn j o hj ho
          · rw [hio] at ho; cases ho; exact hne
      cases hd : (ops[i]).dst with
      | none =>
        rw [hd] at hx
        exact other (by rw [hd]; simp) hx
      | some d' =>
        rw [hd] at hx
        simp only [aput] at hx
        rw [List.getElem?_set] at hx
        by_cases e : d' = d
        · subst e
          rw [if_pos rfl] at hx
          split at hx
          · rename_i hl
            simp at hx
            exact .inl ⟨i, _, Nat.lt_succ_self _, hio, hd, by rw [hlen i (by omega)] at hl; exact hl, hx.symm⟩
          · cases hx
        · rw [if_neg e] at hx
          exact other (by rw [hd]; simp [e]) hx
  -- two operations do not write one slot
  have hnodup : ∀ (i j : Nat) oi oj d, ops[i]? = some oi → ops[j]? = some oj → oi.dst = some d → oj.dst = some d → i = j := by
    intro i j oi oj d hi hj h1 h2
    rcases Nat.lt_trichotomy i j with hlt | heq | hlt
    · obtain ⟨ij, _, hij, _⟩ := hchk i oi hi
      obtain ⟨_, _, _, _, _, h3⟩ := hchk j oj hj
      exact absurd h2 ((h3 i oi ij hlt hi hij).1 d h1).1
    · exact heq
    · obtain ⟨ij, _, hij, _⟩ := hchk j oj hj
      obtain ⟨_, _, _, _, _, h3⟩ := hchk i oi hi
      exact absurd h1 ((h3 j oj ij hlt hj hij).1 d h2).1
  have hkind := fun (i : Nat) (o : Oper) (ho : ops[i]? = some o) => (htr i o ((hop i o).1 ho))
  -- states without an effect between them are one
  let isEff := fun e : Nat => ∃ f l, is[e]? = some (Info.eff f l)
  have hstep : ∀ e, e < ops.size → ¬ isEff e → ss (e + 1) = ss e := by
    intro e he hne
    obtain ⟨inf, h1, h2, _⟩ := htr e _ ((hop e _).1 (Array.getElem?_eq_getElem he))
    rcases astep_kind hO.keep hO.reads h2 with ⟨_, h, _⟩ | ⟨r, _, h, _⟩ | ⟨f, h, _⟩
    · exact h
    · exact h
    · exact absurd ⟨f, _, by rw [h1, h]⟩ hne
  have hsame : ∀ d b, b + d ≤ ops.size → (∀ e, b ≤ e → e < b + d → ¬ isEff e) → ss (b + d) = ss b := by
    intro d
    induction d with
    | zero => intro b _ _; rfl
    | succ d ih =>
      intro b hb hn
      rw [← Nat.add_assoc, hstep (b + d) (by omega) (hn _ (by omega) (by omega))]
      exact ih b (by omega) fun e h1 h2 => hn e h1 (by omega)
  have hreg : ∀ d b r, b + d ≤ ops.size → (∀ e f l, b ≤ e → e < b + d → is[e]? = some (Info.eff f l) → r ∉ f ∧ r < l) → (ss (b + d))[r]? = (ss b)[r]? := by
    intro d
    induction d with
    | zero => intro b r _ _; rfl
    | succ d ih =>
      intro b r hb hn
      rw [← ih b r (by omega) fun e f l h1 h2 => hn e f l h1 (by omega)]
      obtain ⟨inf, h1, h2, _⟩ := htr (b + d) _ ((hop (b + d) _).1 (Array.getElem?_eq_getElem (show b + d < ops.size by omega)))
      rw [← Nat.add_assoc]
      rcases astep_kind hO.keep hO.reads h2 with ⟨_, h, _⟩ | ⟨_, _, h, _⟩ | ⟨f, h, hk⟩
      · rw [h]
      · rw [h]
      · obtain ⟨h3, h4⟩ := hn (b + d) f _ (by omega) (by omega) (by rw [h1, h])
        exact hk r h4 h3
  -- the induction
  have main : ∀ (fuel : Nat) (listed : Array Bool) (μ1 : List Place) (a1 : Act) (w1 : World), listed.size = ops.size → ((List.range ops.size).countP fun j => !listed.getD j false) ≤ fuel →
      (∀ (k : Nat) o e, Lst listed k → ops[k]? = some o → e ∈ o.after → binds .any e = true → Lst listed e.on) →
      Ext μ μ1 → a1.tmps.size = t.length → a1.defers = [] → (∀ d x, SV ops.toList t vv (Lst listed) d x → ∃ y, a1.tmps[d]? = some y ∧ VRt μ1 x y) →
      (∃ m, m ≤ ops.size ∧ (∀ e, isEff e → (Lst listed e ↔ e < m)) ∧ R n b T0 w0 μ1 (ss m) w1) →
      wpAny P .any ops Q fuel listed a1 w1 := by
    intro fuel
    induction fuel with
    | zero =>
      intro listed μ1 a1 w1 hsz hcnt hcl hext hts hdf hsv ⟨m, hm, heff, hR1⟩
      have hall : ∀ j, j < ops.size → Lst listed j := by
        intro j hj
        unfold Lst
        have := List.countP_eq_zero.1 (Nat.le_zero.1 hcnt) j (List.mem_range.2 hj)
        simpa using this
      have hnil : Region.ready .any ops listed = [] := by
        apply List.eq_nil_iff_forall_not_mem.2
        intro j hj
        rw [mem_ready] at hj
        obtain ⟨h0, o, ho, _⟩ := hj
        have hj := (Array.getElem?_eq_some_iff.1 ho).1
        have := hall j hj
        unfold Lst at this
        simp [hsz, hj] at h0 this
        rw [h0] at this; cases this
      refine ⟨hnil, ?_⟩
      refine hQ μ1 a1 w1 hext ⟨⟨?_, ?_⟩, hdf⟩ ?_
      · rw [← httn]; simp only [Array.length_toList]
        rw [hlen _ (by simp)]; exact hts.symm
      · intro d x y hx hy
        rw [← httn] at hx
        have h1 := hSV _ (by simp) d x hx
        have h2 : SV ops.toList t vv (Lst listed) d x := by
          rcases h1 with ⟨j, o, hj, b, c, e, f⟩ | ⟨hn, ht⟩
          · exact .inl ⟨j, o, hall j (by simpa using hj), b, c, e, f⟩
          · exact .inr ⟨fun j o hj ho => hn j o (by have := (List.getElem?_eq_some_iff.1 ho).1; simpa using this) ho, ht⟩
        obtain ⟨y', hy', hv⟩ := hsv d x h2
        have : a1.tmps[d]? = some y := by simpa using hy
        rw [this] at hy'; cases hy'; exact hv
      · rw [← hssn]
        have : ss ops.toList.length = ss m := by
          have := hsame (ops.size - m) m (by omega) (fun e h1 h2 he => by have := (heff e he).1 (hall e (by omega)); omega)
          rw [show m + (ops.size - m) = ops.size from by omega] at this
          simpa using this
        rw [this]; exact hR1
    | succ fuel ih =>
      intro listed μ1 a1 w1 hsz hcnt hcl hext hts hdf hsv hst
      refine ⟨fun hnil => ?_, fun i hi => ?_⟩
      · -- nothing is left
        have hall : ∀ j, j < ops.size → Lst listed j := by
          intro j
          induction j using Nat.strongRecOn with
          | _ j ihj =>
            intro hj
            apply Classical.byContradiction
            intro hnl
            have hmem : j ∈ Region.ready .any ops listed := by
              rw [mem_ready]
              refine ⟨?_, ops[j], Array.getElem?_eq_getElem hj, fun e he hb => ?_⟩
              · unfold Lst at hnl; simp [hsz, hj] at hnl ⊢; exact hnl
              · obtain ⟨_, _, _, _, h3, _⟩ := hchk j _ (Array.getElem?_eq_getElem hj)
                have := h3 e he hb
                exact ihj e.on this (by omega)
            rw [hnil] at hmem; cases hmem
        have h0 := ih listed μ1 a1 w1 hsz (by
          have : ((List.range ops.size).countP fun j => !listed.getD j false) = 0 := List.countP_eq_zero.2 fun j hj => by
            have := hall j (List.mem_range.1 hj); unfold Lst at this; simp at this; simp [this]
          omega) hcl hext hts hdf hsv hst
        cases fuel with
        | zero => exact h0.2
        | succ f => exact h0.1 hnil
      · -- an operation that is ready
        obtain ⟨m, hm, heff, hR1⟩ := hst
        obtain ⟨hun, o, ho, hready⟩ := mem_ready.1 hi
        have hin := (Array.getElem?_eq_some_iff.1 ho).1
        have hnl : ¬ Lst listed i := by unfold Lst; simp [hsz, hin] at hun ⊢; exact hun
        obtain ⟨inf, hinf, hstepi, _⟩ := htr i o ((hop i o).1 ho)
        obtain ⟨ii, mk, hii, hreach, hback, hpair⟩ := hchk i o ho
        rw [hinf] at hii; cases hii
        have hbefore : ∀ j, mk.testBit j = true → Lst listed j := fun j hj =>
          (hreach j hj).closed (L := Lst listed) (fun k o e hk ho he hb => hcl k o e hk ((hop k o).2 ho) he hb) fun o' e ho' he hb => by
            rw [(hop i o').2 ho'] at ho; cases ho; exact hready e he hb
        have hafter : ∀ (j : Nat) oj ij, i < j → Lst listed j → ops[j]? = some oj → is[j]? = some ij →
            (∀ d, oj.dst = some d → d ∉ looks ops.toList o) ∧ clash inf ij = false := by
          intro j oj ij hij hlj hoj hisj
          obtain ⟨ij', mj, hij', hrj, _, hpj⟩ := hchk j oj hoj
          rw [hisj] at hij'; cases hij'
          obtain ⟨p1, p2, p3⟩ := hpj i o inf hij ho hinf
          have hno : ¬ mj.testBit i = true := fun hb => hnl ((hrj i hb).closed (L := Lst listed) (fun k o e hk ho he hb => hcl k o e hk ((hop k o).2 ho) he hb) fun o' e ho' he hb => hcl j o' e hlj ((hop j o').2 ho') he hb)
          refine ⟨fun d hd hl => hno (p2 d hd hl), ?_⟩
          cases hc : clash inf ij with
          | false => rfl
          | true => exact absurd (p3 hc) hno
        -- the slots that it looks at
        have hslot : ∀ d x, d ∈ looks ops.toList o → (tt i)[d]? = some x → ∃ y, a1.tmps[d]? = some y ∧ VRt μ1 x y := by
          intro d x hd hx
          refine hsv d x ?_
          rcases hSV i (by omega) d x hx with ⟨j, oj, hj, hoj, hdj, hl, he⟩ | ⟨hn, ht⟩
          · obtain ⟨ij, _, hij, _⟩ := hchk j oj ((hop j oj).2 hoj)
            exact .inl ⟨j, oj, hbefore j (((hpair j oj ij hj ((hop j oj).2 hoj) hij).1 d hdj).2 hd), hoj, hdj, hl, he⟩
          · refine .inr ⟨fun j oj hlj hoj hdj => ?_, ht⟩
            rcases Nat.lt_trichotomy j i with hlt | heq | hgt
            · exact hn j oj hlt hoj hdj
            · subst heq; exact hnl hlj
            · obtain ⟨ij, _, hij, _⟩ := hchk j oj ((hop j oj).2 hoj)
              exact (hafter j oj ij hgt hlj ((hop j oj).2 hoj) hij).1 d hdj hd
        have hρ : ∀ x ∈ o.op.operands, ∀ va, aeval (tt i) x = some va → VR μ1 va (a1.eval x) := by
          intro x hx va hva
          cases x with
          | tmp d =>
            obtain ⟨hva, hu⟩ := aeval_tmp.1 hva
            obtain ⟨y, hy, hv⟩ := hslot d va (by
              unfold looks
              exact List.mem_append_left _ (List.mem_filterMap.2 ⟨.tmp d, by simpa using hx, rfl⟩)) hva
            have hv := hv.resolve_left (by rw [hu]; simp)
            simp [Act.eval, hy]; exact hv
          | const u =>
            simp only [aeval] at hva
            split at hva
            · rename_i hp; simp at hva; subst hva; exact VR.plain hp
            · cases hva
          | func f =>
            simp only [aeval] at hva
            cases hva
            exact .func _ _ _ _ _ rfl (fun i x y h => by simp at h) rfl (fun i x y h => by simp at h)
          | global g => simp [aeval] at hva
        have hy : ∀ j want b, o.guard = some (j, want) → ayield ops.toList (tt i) j = some b → yielded ops a1.tmps j = b := by
          intro j want b hg hb
          unfold ayield at hb
          split at hb
          · rename_i og hog
            split at hb
            · rename_i d hd
              split at hb
              · rename_i c hc
                simp at hb; subst hb
                obtain ⟨y, hy, hv⟩ := hslot d _ (by
                  unfold looks
                  refine List.mem_append_right _ ?_
                  simp only [hg, hog, hd]; simp) hc
                have hv := hv.resolve_left (by simp [isUnk])
                cases hv
                simp [yielded, (hop j og).2 hog, hd, hy]
              · rename_i hc
                simp at hb; subst hb
                obtain ⟨y, hy, hv⟩ := hslot d _ (by
                  unfold looks
                  refine List.mem_append_right _ ?_
                  simp only [hg, hog, hd]; simp) hc
                have hv := hv.resolve_left (by simp [isUnk])
                cases hv with
                | tuple _ ys hs _ =>
                  unfold yielded
                  simp [(hop j og).2 hog, hd, hy]
              · cases hb
            · cases hb
          · cases hb
        -- the next state
        have hnext : ∀ μ' r w' m', Ext μ1 μ' → VR μ' (vv i) r → m' ≤ ops.size → (∀ e, isEff e → (Lst (listed.setIfInBounds i true) e ↔ e < m')) → R n b T0 w0 μ' (ss m') w' →
            wpAny P .any ops Q fuel (listed.setIfInBounds i true) (a1.put o.dst r) w' := by
          intro μ' r w' m' he hv hm' heff' hR'
          have hL : ∀ j, Lst (listed.setIfInBounds i true) j ↔ j = i ∨ Lst listed j := fun j => Lst.set (by rw [hsz]; exact hin)
          refine ih _ μ' _ w' (by simp [hsz]) ?_ ?_ (hext.trans he) ?_ ?_ ?_ ⟨m', hm', heff', hR'⟩
          · have := count_lt (p := fun j => !listed.getD j false) (q := fun j => !(listed.setIfInBounds i true).getD j false) (List.range ops.size) i (List.mem_range.2 hin)
              (by unfold Lst at hnl; simpa using hnl) (by simp [hsz, hin]) (fun j hj => by
                have hj' : ¬ Lst (listed.setIfInBounds i true) j := by unfold Lst; simpa using hj
                have : ¬ Lst listed j := fun h => hj' ((hL j).2 (.inr h))
                unfold Lst at this; simpa using this)
            omega
          · intro k ok e hk hok he' hb
            rcases (hL k).1 hk with rfl | hk
            · rw [ho] at hok; cases hok
              exact (hL _).2 (.inr (hready e he' hb))
            · exact (hL _).2 (.inr (hcl k ok e hk hok he' hb))
          · cases hd : o.dst <;> simp [Act.put, hts]
          · cases hd : o.dst <;> simp [Act.put, hdf]
          · intro d x hx
            have old : (∀ d', o.dst = some d' → d' ≠ d) → SV ops.toList t vv (Lst listed) d x → ∃ y, (a1.put o.dst r).tmps[d]? = some y ∧ VRt μ' x y := by
              intro hne hx
              obtain ⟨y, hy, hv'⟩ := hsv d x hx
              refine ⟨y, ?_, hv'.mono he⟩
              cases hd : o.dst with
              | none => simpa [Act.put, hd] using hy
              | some d' => simp only [Act.put]; rw [Array.getElem?_setIfInBounds_ne (hne d' hd)]; exact hy
            by_cases hd : o.dst = some d
            · rcases hx with ⟨j, oj, hj, hoj, hdj, hl, hxe⟩ | ⟨hn, _⟩
              · have hji := hnodup j i oj o d ((hop j oj).2 hoj) ho hdj hd
                subst hji; subst hxe
                refine ⟨r, ?_, .inr hv⟩
                rw [hd]; simp [Act.put, hts, hl]
              · exact absurd hd (hn i o ((hL i).2 (.inl rfl)) ((hop i o).1 ho))
            · refine old (fun d' h' e => hd (by rw [h', e])) ?_
              rcases hx with ⟨j, oj, hj, hoj, hdj, hl, hxe⟩ | ⟨hn, ht⟩
              · rcases (hL j).1 hj with rfl | hj
                · rw [(hop _ _).1 ho] at hoj; cases hoj; exact absurd hdj hd
                · exact .inl ⟨j, oj, hj, hoj, hdj, hl, hxe⟩
              · exact .inr ⟨fun j oj hj hoj => hn j oj ((hL j).2 (.inr hj)) hoj, ht⟩
        have noeff : ¬ isEff i → ∀ e, isEff e → (Lst (listed.setIfInBounds i true) e ↔ e < m) := by
          intro hne e he
          rw [Lst.set (by rw [hsz]; exact hin)]
          constructor
          · rintro (rfl | h)
            · exact absurd he hne
            · exact (heff e he).1 h
          · exact fun h => .inr ((heff e he).2 h)
        rcases astep_kind hO.keep hO.reads hstepi with ⟨rfl, hs, hall⟩ | ⟨rs, rfl, hs, hall⟩ | ⟨f, rfl, hk⟩
        · -- pure
          refine astep_wp2 hT hO ho (hall (ss m)) hρ hy hR1 fun μ' r w' h1 h2 h3 => hnext μ' r w' m h1 h2 hm (noeff ?_) h3
          rintro ⟨f, l, hf⟩; rw [hinf] at hf; cases hf
        · -- a reading
          have hrg : ∀ r ∈ rs, (ss m)[r]? = (ss i)[r]? := by
            intro r hrr
            by_cases hmi : m ≤ i
            · have := hreg (i - m) m r (by omega) (fun e f l h1 h2 hf => by
                have hnle : ¬ Lst listed e := fun h => by have := (heff e ⟨f, l, hf⟩).1 h; omega
                have hei : e < i := by omega
                obtain ⟨_, _, p3⟩ := hpair e _ _ hei (Array.getElem?_eq_getElem (by omega)) hf
                have hc : clash (.eff f l) (.load rs) = false := by
                  cases hc : clash (.eff f l) (.load rs) with
                  | false => rfl
                  | true => exact absurd (hbefore e (p3 hc)) hnle
                have hc := List.any_eq_false.1 hc r hrr
                simp only [Bool.or_eq_true, List.contains_eq_mem, decide_eq_true_eq, not_or] at hc
                exact ⟨hc.1, by omega⟩)
              rw [show m + (i - m) = i from by omega] at this
              exact this.symm
            · have := hreg (m - i) i r (by omega) (fun e f l h1 h2 hf => by
                have hle : Lst listed e := (heff e ⟨f, l, hf⟩).2 (by omega)
                have hei : i < e := by
                  rcases Nat.lt_or_eq_of_le h1 with h | h
                  · exact h
                  · subst h; exact absurd hle hnl
                have hc := (hafter e _ _ hei hle (Array.getElem?_eq_getElem (by omega)) hf).2
                have hc := List.any_eq_false.1 hc r hrr
                simp only [Bool.or_eq_true, List.contains_eq_mem, decide_eq_true_eq, not_or] at hc
                exact ⟨hc.1, by omega⟩)
              rw [show i + (m - i) = m from by omega] at this
              exact this
          refine astep_wp2 hT hO ho (hall (ss m) hrg) hρ hy hR1 fun μ' r w' h1 h2 h3 => hnext μ' r w' m h1 h2 hm (noeff ?_) h3
          rintro ⟨f, l, hf⟩; rw [hinf] at hf; cases hf
        · -- an effect
          have hmi : m ≤ i := by
            apply Decidable.byContradiction
            intro hlt
            exact hnl ((heff i ⟨f, _, hinf⟩).2 (by omega))
          have hef : ∀ e, isEff e → e < i → Lst listed e := by
            rintro e ⟨f', l', hf'⟩ hei
            obtain ⟨_, _, p3⟩ := hpair e _ _ hei (Array.getElem?_eq_getElem (by omega)) hf'
            exact hbefore e (p3 rfl)
          have hss : ss m = ss i := by
            have := hsame (i - m) m (by omega) (fun e h1 h2 he => by
              have := (heff e he).1 (hef e he (by omega)); omega)
            rw [show m + (i - m) = i from by omega] at this
            exact this.symm
          rw [hss] at hR1
          refine astep_wp2 hT hO ho hstepi hρ hy hR1 fun μ' r w' h1 h2 h3 => hnext μ' r w' (i + 1) h1 h2 (by omega) ?_ h3
          intro e he
          rw [Lst.set (by rw [hsz]; exact hin)]
          constructor
          · rintro (rfl | h)
            · omega
            · have := (heff e he).1 h; omega
          · intro h
            rcases Nat.lt_or_eq_of_le (Nat.le_of_lt_succ h) with h | h
            · exact .inr (hef e he h)
            · exact .inl h
  refine main ops.size _ μ a _ (by simp) ?_ ?_ (Ext.refl _) (by have := ha.tmps.1; simpa using this.symm) ha.defers ?_ ⟨0, Nat.zero_le _, ?_, ?_⟩
  · refine Nat.le_trans List.countP_le_length ?_
    simp
  · intro k o e hk
    unfold Lst at hk
    by_cases hk2 : k < ops.size <;> simp [hk2] at hk
  · intro d x hx
    have hx' : t[d]? = some x := by
      rcases hx with ⟨j, o, hj, _⟩ | ⟨_, ht⟩
      · unfold Lst at hj
        by_cases hk2 : j < ops.size <;> simp [hk2] at hj
      · exact ht
    obtain ⟨y, hy, hv⟩ := ha.tmps.get hx'
    exact ⟨y, by simpa using hy, hv⟩
  · intro e _
    unfold Lst
    by_cases hk2 : e < ops.size <;> simp [hk2]
  · rw [hss0]; exact hR.drew rfl rfl rfl rfl
end
end Go.Proofs.Ytggkdjhgknghcaa.Am

namespace Go.Proofs.Ytggkdjhgknghcaa.Am

inductive AExit where
  | normal
  | exit (id : Nat)
  | ret

def AExit.real : AExit → Exit
  | .normal => .normal
  | .exit id => .exit id
  | .ret => .ret

abbrev ARes := Option (AExit × List Value × St)

def iter : Nat → (List Value → St → ARes) → List Value → St → ARes
  | 0, _, _, _ => none
  | n + 1, F, t, s => match F t s with
    | some (.normal, t', s') => iter n F t' s'
    | r => r

/-- What an operation comes to, told ahead (and owed). -/
inductive OvV where
  | pure (v : Value)
  | load (v : Value) (r : Nat)
  | read (v : Value) (rs : List Nat)
  | eff (v : Value) (F : St → St) (foot : List Nat)

def OvV.res (s : St) : OvV → Value × St × Info
  | .pure v => (v, s, .pure)
  | .load v r => (v, s, .load [r])
  | .read v rs => (v, s, .load rs)
  | .eff v F foot => (v, F s, .eff foot s.length)

/-- What is told ahead: of operations (by region and place), of loops (by their first region: which slots live on; what the loop comes to). -/
structure Hint where
  ov : Nat → Nat → Option OvV
  lo : Nat → Option (List Nat × (List Value → St → ARes))

def noHint : Hint := ⟨fun _ _ => none, fun _ => none⟩

def keepGo (live : List Nat) : Nat → List Value → List Value
  | _, [] => []
  | i, v :: r => (if live.contains i then v else unk) :: keepGo live (i + 1) r
def keepS (live : List Nat) (t : List Value) : List Value := keepGo live 0 t

def astepO (T : Tab) (O : Orc) (h : Hint) (rid i : Nat) (ops : List Oper) (o : Oper) (t : List Value) (s : St) : Option (Value × St × Info) :=
  match h.ov rid i with
  | some u => some (u.res s)
  | none => astep T O ops o t s
/-- Does the operation run? -/
def gOk (ops : List Oper) (o : Oper) (t : List Value) : Option Bool :=
  match o.guard with
  | none => some true
  | some (j, want) => match ayield ops t j with
    | some b => some (b == some want)
    | none => none
def apureG (T : Tab) (ops : List Oper) (o : Oper) (t : List Value) : Option Value :=
  match gOk ops o t with
  | some true => apure T (aeval t) o.op
  | some false => some undef
  | none => none
def aloadG (T : Tab) (ops : List Oper) (o : Oper) (t : List Value) (s : St) : Option (Value × Nat) :=
  match gOk ops o t with
  | some true => match o.op with
    | .load ty a => match aeval t a with
      | some u => aload T s ty u
      | none => none
    | _ => none
  | _ => none
def aeffG (T : Tab) (O : Orc) (ops : List Oper) (o : Oper) (t : List Value) (s : St) : Option (Value × St × Info) :=
  match gOk ops o t with
  | some true => aeffI T O s (aeval t) o.op
  | _ => none
/-- What is owed for an operation told ahead. -/
def ovOk (T : Tab) (O : Orc) (ops : List Oper) (o : Oper) (t : List Value) (s : St) : OvV → Prop
  | .pure v => apureG T ops o t = some v
  | .load v r => aloadG T ops o t s = some (v, r)
  | .read v rs => apureG T ops o t = none ∧ aeffG T O ops o t s = some (v, s, .load rs)
  | .eff v F foot => apureG T ops o t = none ∧ aeffG T O ops o t s = some (v, F s, .eff foot s.length)

theorem ovOk_step {T : Tab} {O : Orc} {ops : List Oper} {o : Oper} {t : List Value} {s : St} {u : OvV} (h : ovOk T O ops o t s u) : astep T O ops o t s = some (u.res s) := by
  have key : ∀ {v : Bool}, gOk ops o t = some v → astep T O ops o t s = if v then aop T O s (aeval t) o.op else some (undef, s, .pure) := by
    intro v hg
    unfold gOk at hg
    unfold astep
    cases hgd : o.guard with
    | none => rw [hgd] at hg; simp at hg; subst hg; rfl
    | some g =>
      obtain ⟨j, want⟩ := g
      rw [hgd] at hg
      simp only at hg ⊢
      cases hy : ayield ops t j with
      | none => rw [hy] at hg; simp at hg
      | some b => rw [hy] at hg; simp only [Option.some.injEq] at hg; subst hg; rfl
  cases hg : gOk ops o t with
  | none => cases u <;> simp [ovOk, apureG, aloadG, aeffG, hg] at h
  | some v =>
    rw [key hg]
    cases v with
    | false =>
      cases u with
      | pure v => simp [ovOk, apureG, hg] at h; subst h; rfl
      | load v r => simp [ovOk, aloadG, hg] at h
      | read v rs => simp [ovOk, apureG, hg] at h
      | eff v F foot => simp [ovOk, apureG, hg] at h
    | true =>
      simp only [if_true]
      cases u with
      | pure v =>
        simp only [ovOk, apureG, hg] at h
        unfold aop; rw [h]; rfl
      | load v r =>
        simp only [ovOk, aloadG, hg] at h
        split at h
        · rename_i ty a hop
          split at h
          · rename_i u hu
            unfold aop
            rw [hop]
            simp only [apure, hu, h]; rfl
          · cases h
        · cases h
      | read v rs =>
        simp only [ovOk, apureG, aeffG, hg] at h
        unfold aop
        rw [h.1]
        simp only
        split
        · rename_i ty a hop
          rw [hop] at h
          have := h.2
          simp [aeffI, effI, aeff] at this
        · rw [h.2]; rfl
      | eff v F foot =>
        simp only [ovOk, apureG, aeffG, hg] at h
        unfold aop
        rw [h.1]
        simp only
        split
        · rename_i ty a hop
          rw [hop] at h
          have := h.2
          simp [aeffI, effI, aeff] at this
        · rw [h.2]; rfl

def aopsO (T : Tab) (O : Orc) (h : Hint) (rid : Nat) (ops : List Oper) : List Oper → Nat → List Value → St → Option (List Info × List Value × St)
  | [], _, t, s => some ([], t, s)
  | o :: r, i, t, s => match astepO T O h rid i ops o t s with
    | some (v, s', inf) => match aopsO T O h rid ops r (i + 1) (aput o.dst v t) s' with
      | some (is, t', s'') => some (inf :: is, t', s'')
      | none => none
    | none => none
def aopsP (T : Tab) (O : Orc) (h : Hint) (rid : Nat) (ops : List Oper) : List Oper → Nat → List Value → St → Prop → Prop
  | [], _, _, _, K => K
  | o :: r, i, t, s, K => match h.ov rid i with
    | some u => ovOk T O ops o t s u ∧ aopsP T O h rid ops r (i + 1) (aput o.dst (u.res s).1 t) (u.res s).2.1 K
    | none => match astep T O ops o t s with
      | some (v, s', _) => aopsP T O h rid ops r (i + 1) (aput o.dst v t) s' K
      | none => False

theorem aopsO_eq {T : Tab} {O : Orc} {h : Hint} {rid : Nat} {ops : List Oper} : ∀ {r : List Oper} {i : Nat} {t : List Value} {s : St} {K : Prop}, aopsP T O h rid ops r i t s K → aops T O ops r t s = aopsO T O h rid ops r i t s ∧ K := by
  intro r
  induction r with
  | nil => intro i t s K h; exact ⟨rfl, h⟩
  | cons o r ih =>
    intro i t s K hp
    simp only [aopsP] at hp
    simp only [aops, aopsO, astepO]
    cases hov : h.ov rid i with
    | some u =>
      rw [hov] at hp
      obtain ⟨h1, h2⟩ := hp
      have h1 := ovOk_step h1
      obtain ⟨h3, h4⟩ := ih h2
      rw [h1]
      simp only
      rw [h3]
      exact ⟨rfl, h4⟩
    | none =>
      rw [hov] at hp
      simp only at hp ⊢
      cases hst : astep T O ops o t s with
      | none => rw [hst] at hp; exact hp.elim
      | some x =>
        obtain ⟨v, s', inf⟩ := x
        rw [hst] at hp
        obtain ⟨h3, h4⟩ := ih hp
        simp only
        rw [h3]
        exact ⟨rfl, h4⟩

def aregion (T : Tab) (O : Orc) (h : Hint) (rid : Nat) (ops : List Oper) (draw : Bool) (t : List Value) (s : St) : ARes :=
  match aopsO T O h rid ops ops 0 t s with
  | some (is, t', s') => if draw then (if drawOk ops is then some (.normal, t', s') else none) else some (.normal, t', s')
  | none => none

/-- A loop's key: its first region. -/
def firstReg : Code → Option Nat
  | .region id _ _ => some id
  | .seq a b => match firstReg a with
    | some i => some i
    | none => firstReg b
  | .cond _ a b => match firstReg a with
    | some i => some i
    | none => firstReg b
  | .block _ c => firstReg c
  | .loop c => firstReg c
  | .scope c => firstReg c
  | _ => none

def Hint.loop (h : Hint) (c : Code) : Option (List Nat × (List Value → St → ARes)) :=
  match firstReg c with
  | some i => h.lo i
  | none => none

def ex (T : Tab) (O : Orc) (h : Hint) (n : Nat) : Code → List Value → St → ARes
  | .skip, t, s => some (.normal, t, s)
  | .label _, t, s => some (.normal, t, s)
  | .region id ops draw, t, s => match h.lo (1000000 + id) with
    | some (live, f) => f (keepS live t) s
    | none => aregion T O h id ops.toList draw t s
  | .seq a b, t, s => match ex T O h n a t s with
    | some (.normal, t', s') => ex T O h n b t' s'
    | r => r
  | .cond c a b, t, s => match aeval t c with
    | some (.bool true) => ex T O h n a t s
    | some (.bool false) => ex T O h n b t s
    | _ => none
  | .block id c, t, s => match ex T O h n c t s with
    | some (.exit j, t', s') => if j = id then some (.normal, t', s') else some (.exit j, t', s')
    | r => r
  | .loop c, t, s => match h.loop c with
    | some (live, f) => f (keepS live t) s
    | none => iter n (ex T O h n c) t s
  | .exit id, t, s => some (.exit id, t, s)
  | .ret, t, s => some (.ret, t, s)
  | _, _, _ => none

/-- The model's code comes, from all that the abstract state stands for, to what the abstract end stands for. -/
structure Runs (P : Program) (c : Code) (t : List Value) (s : St) (e : AExit) (t' : List Value) (s' : St) : Prop where
  run : ∀ {n b : Nat} {T0 : Nat → Nat → Prop} {w0 : World} {μ : List Place} {a : Act} {w : World} {Q : Exit → Act → World → Prop}, AR μ t a → R n b T0 w0 μ s w →
    (∀ μ' a' w', ExtU b μ μ' → AR μ' t' a' → R n b T0 w0 μ' s' w' → Q e.real a' w') → c.wp P Q a w

/-- A loop: so many rounds. -/
structure LoopRuns (P : Program) (c : Code) (m : Nat) (t : List Value) (s : St) (e : AExit) (t' : List Value) (s' : St) : Prop where
  run : ∀ {n b : Nat} {T0 : Nat → Nat → Prop} {w0 : World} {μ : List Place} {a : Act} {w : World} {Q : Exit → Act → World → Prop}, AR μ t a → R n b T0 w0 μ s w →
    (∀ μ' a' w', ExtU b μ μ' → AR μ' t' a' → R n b T0 w0 μ' s' w' → Q e.real a' w') → Code.rounds P c Q m a w

theorem LoopRuns.stop {P : Program} {c : Code} {m : Nat} {t s e t' s'} (h : Runs P c t s e t' s') (he : e ≠ .normal) : LoopRuns P c (m + 1) t s e t' s' := by
  refine ⟨?_⟩
  intro n b T0 w0 μ a w Q ha hR hQ
  rw [rounds_succ]
  refine h.run ha hR fun μ' a' w' h1 h2 h3 => ?_
  cases e with
  | normal => exact absurd rfl he
  | exit id => exact hQ μ' a' w' h1 h2 h3
  | ret => exact hQ μ' a' w' h1 h2 h3
theorem LoopRuns.step {P : Program} {c : Code} {m : Nat} {t s t1 s1 e t' s'} (h : Runs P c t s .normal t1 s1) (k : LoopRuns P c m t1 s1 e t' s') : LoopRuns P c (m + 1) t s e t' s' := by
  refine ⟨?_⟩
  intro n b T0 w0 μ a w Q ha hR hQ
  rw [rounds_succ]
  exact h.run ha hR fun μ' a' w' h1 h2 h3 => k.run h2 h3 fun μ2 a2 w2 f1 f2 f3 => hQ μ2 a2 w2 (h1.trans f1) f2 f3
theorem LoopRuns.runs {P : Program} {c : Code} {m : Nat} {t s e t' s'} (h : LoopRuns P c m t s e t' s') : Runs P (.loop c) t s e t' s' := by
  refine ⟨?_⟩
  intro n b T0 w0 μ a w Q ha hR hQ
  exact wp_loop_rounds m (h.run ha hR hQ)

theorem keepGo_get (live : List Nat) : ∀ (t : List Value) (i j : Nat), (keepGo live i t)[j]? = (t[j]?).map fun v => if live.contains (i + j) then v else unk := by
  intro t
  induction t with
  | nil => intro i j; simp [keepGo]
  | cons v r ih =>
    intro i j
    cases j with
    | zero => simp [keepGo]
    | succ j =>
      simp only [keepGo, List.getElem?_cons_succ]
      rw [ih (i + 1) j, show i + 1 + j = i + (j + 1) from by omega]
theorem keepGo_length (live : List Nat) : ∀ (t : List Value) (i : Nat), (keepGo live i t).length = t.length := by
  intro t
  induction t with
  | nil => intro i; rfl
  | cons v r ih => intro i; simp [keepGo, ih]
theorem AR.keep {μ t a} (h : AR μ t a) (live : List Nat) : AR μ (keepS live t) a := by
  refine ⟨⟨by unfold keepS; rw [keepGo_length]; exact h.tmps.1, fun i x y hx hy => ?_⟩, h.defers⟩
  unfold keepS at hx
  rw [keepGo_get] at hx
  simp only [Nat.zero_add, Option.map_eq_some_iff] at hx
  obtain ⟨v, hv, rfl⟩ := hx
  split
  · exact h.tmps.2 i v y hv hy
  · exact .inl rfl
/-- Slots that are not needed any more may be forgotten, before and behind. -/
theorem Runs.keep {P c t s e t' s'} (live : List Nat) (h : Runs P c (keepS live t) s e t' s') : Runs P c t s e t' s' := ⟨fun ha hR hQ => h.run (ha.keep live) hR hQ⟩
theorem Runs.keep' {P c t s e t' s'} (live : List Nat) (h : Runs P c t s e t' s') : Runs P c t s e (keepS live t') s' :=
  ⟨fun ha hR hQ => h.run ha hR fun μ' a' w' h1 h2 h3 => hQ μ' a' w' h1 (h2.keep live) h3⟩

/-- What is owed for what was told ahead. -/
def iterP : Nat → (List Value → St → ARes) → (List Value → St → Prop → Prop) → List Value → St → Prop → Prop
  | 0, _, _, _, _, _ => False
  | n + 1, F, G, t, s, K => G t s (match F t s with
    | some (.normal, t', s') => iterP n F G t' s' K
    | _ => K)

def exP (P : Program) (T : Tab) (O : Orc) (h : Hint) (n : Nat) : Code → List Value → St → Prop → Prop
  | .skip, _, _, K => K
  | .label _, _, _, K => K
  | .region id ops draw, t, s, K => match h.lo (1000000 + id) with
    | some (live, f) => match f (keepS live t) s with
      | some (e, t', s') => Runs P (.region id ops draw) (keepS live t) s e t' s' ∧ K
      | none => False
    | none => aopsP T O h id ops.toList ops.toList 0 t s K
  | .seq a b, t, s, K => exP P T O h n a t s (match ex T O h n a t s with
    | some (.normal, t', s') => exP P T O h n b t' s' K
    | _ => K)
  | .cond c a b, t, s, K => match aeval t c with
    | some (.bool true) => exP P T O h n a t s K
    | some (.bool false) => exP P T O h n b t s K
    | _ => False
  | .block _ c, t, s, K => exP P T O h n c t s K
  | .loop c, t, s, K => match h.loop c with
    | some (live, f) => match f (keepS live t) s with
      | some (e, t', s') => Runs P (.loop c) (keepS live t) s e t' s' ∧ K
      | none => False
    | none => iterP n (ex T O h n c) (exP P T O h n c) t s K
  | .exit _, _, _, K => K
  | .ret, _, _, K => K
  | _, _, _, _ => False

section
variable {P : Program} {T : Tab} (hT : TabOk P T) {O : Orc} (hO : OrcOk P O) {n b : Nat} {T0 : Nat → Nat → Prop} {w0 : World} (hmix : P.follows .mixedOrders = true)

theorem exP_K {k : Nat} {h : Hint} : ∀ {c : Code} {t : List Value} {s : St} {K : Prop}, exP P T O h k c t s K → K := by
  intro c
  induction c with
  | skip => intro t s K hp; exact hp
  | label l => intro t s K hp; exact hp
  | region id ops draw =>
    intro t s K hp
    simp only [exP] at hp
    split at hp
    · split at hp
      · exact hp.2
      · exact hp.elim
    · exact (aopsO_eq hp).2
  | seq x y ihx ihy =>
    intro t s K hp
    simp only [exP] at hp
    have := ihx hp
    split at this
    · exact ihy this
    · exact this
  | cond x p q ihp ihq =>
    intro t s K hp
    simp only [exP] at hp
    split at hp
    · exact ihp hp
    · exact ihq hp
    · exact hp.elim
  | block id c ih => intro t s K hp; exact ih hp
  | loop c ih =>
    intro t s K hp
    simp only [exP] at hp
    split at hp
    · split at hp
      · exact hp.2
      · exact hp.elim
    · have : ∀ (m : Nat) (t : List Value) (s : St), iterP m (ex T O h k c) (exP P T O h k c) t s K → K := by
        intro m
        induction m with
        | zero => intro t s hp; exact hp.elim
        | succ m ihm =>
          intro t s hp
          simp only [iterP] at hp
          have := ih hp
          split at this
          · exact ihm _ _ this
          · exact this
      exact this k t s hp
  | exit id => intro t s K hp; exact hp
  | ret => intro t s K hp; exact hp
  | rangeFunc f ps as bd ih1 ih2 => intro t s K hp; exact hp.elim
  | scope c ih => intro t s K hp; exact hp.elim
  | goto l => intro t s K hp; exact hp.elim
  | refuse why => intro t s K hp; exact hp.elim

include hT hO hmix in
theorem ex_runs {k : Nat} {hn : Hint} : ∀ {c : Code} {t : List Value} {st : St} {e : AExit} {t' : List Value} {st' : St} {K : Prop},
    exP P T O hn k c t st K → ex T O hn k c t st = some (e, t', st') → Runs P c t st e t' st' := by
  intro c
  induction c with
  | skip =>
    intro t st e t' st' K hp h
    refine ⟨?_⟩
    intro n b T0 w0 μ a w Q ha hR hQ
    simp [ex] at h; obtain ⟨rfl, rfl, rfl⟩ := h
    exact wp_skip (hQ μ a w (ExtU.refl _ _) ha hR)
  | label l =>
    intro t st e t' st' K hp h
    refine ⟨?_⟩
    intro n b T0 w0 μ a w Q ha hR hQ
    simp [ex] at h; obtain ⟨rfl, rfl, rfl⟩ := h
    exact wp_label (hQ μ a w (ExtU.refl _ _) ha hR)
  | region id ops draw =>
    intro t st e t' st' K hp h
    refine ⟨?_⟩
    intro n b T0 w0 μ a w Q ha hR hQ
    simp only [ex] at h
    simp only [exP] at hp
    split at h
    · rename_i live f hl
      rw [hl] at hp
      simp only [h] at hp
      exact (Runs.keep live hp.1).run ha hR hQ
    · rename_i hl
      rw [hl] at hp
      simp only at hp
      simp only [aregion] at h
      rw [← (aopsO_eq hp).1] at h
      split at h
      · rename_i is t2 s2 h2
        cases draw with
        | true =>
          simp only [if_true] at h
          split at h
          · rename_i hok
            simp at h; obtain ⟨rfl, rfl, rfl⟩ := h
            exact draw_wp hT hO hmix h2 hok ha hR fun μ' a' w' h1 => hQ μ' a' w' (h1.upto _)
          · cases h
        | false =>
          simp at h; obtain ⟨rfl, rfl, rfl⟩ := h
          exact region_wp hT hO h2 ha hR fun μ' a' w' h1 => hQ μ' a' w' (h1.upto _)
      · cases h
  | seq x y ihx ihy =>
    intro t st e t' st' K hp h
    refine ⟨?_⟩
    intro n b T0 w0 μ a w Q ha hR hQ
    simp only [ex] at h
    simp only [exP] at hp
    refine wp_seq ?_
    split at h
    · rename_i t1 s1 h1
      rw [h1] at hp
      refine (ihx hp h1).run ha hR ?_
      intro μ' a' w' e1 e2 e3
      exact (ihy (exP_K hp) h).run e2 e3 fun μ2 a2 w2 f1 f2 f3 => hQ μ2 a2 w2 (e1.trans f1) f2 f3
    · rename_i hne
      refine (ihx hp h).run ha hR ?_
      intro μ' a' w' e1 e2 e3
      cases e with
      | normal => exact absurd h (hne t' st')
      | exit id => exact hQ μ' a' w' e1 e2 e3
      | ret => exact hQ μ' a' w' e1 e2 e3
  | cond x p q ihp ihq =>
    intro t st e t' st' K hp h
    refine ⟨?_⟩
    intro n b T0 w0 μ a w Q ha hR hQ
    simp only [ex] at h
    simp only [exP] at hp
    split at h
    · rename_i hx
      rw [hx] at hp
      have hv := aeval_sound ha.tmps hx
      generalize hq : a.eval x = v at hv
      cases hv
      exact wp_cond_true hq ((ihp hp h).run ha hR hQ)
    · rename_i hx
      rw [hx] at hp
      have hv := aeval_sound ha.tmps hx
      generalize hq : a.eval x = v at hv
      cases hv
      exact wp_cond_false hq ((ihq hp h).run ha hR hQ)
    · cases h
  | block id c ih =>
    intro t st e t' st' K hp h
    refine ⟨?_⟩
    intro n b T0 w0 μ a w Q ha hR hQ
    simp only [ex] at h
    simp only [exP] at hp
    refine wp_block ?_
    split at h
    · rename_i j t1 s1 h1
      refine (ih hp h1).run ha hR ?_
      intro μ' a' w' e1 e2 e3
      split at h
      · rename_i hj
        simp at h; obtain ⟨rfl, rfl, rfl⟩ := h
        simp only [AExit.real, Exit.inBlock, hj, if_true]
        exact hQ μ' a' w' e1 e2 e3
      · rename_i hj
        simp at h; obtain ⟨rfl, rfl, rfl⟩ := h
        simp only [AExit.real, Exit.inBlock, hj, if_false]
        exact hQ μ' a' w' e1 e2 e3
    · rename_i hne
      refine (ih hp h).run ha hR ?_
      intro μ' a' w' e1 e2 e3
      cases e with
      | normal => exact hQ μ' a' w' e1 e2 e3
      | exit j => exact absurd h (hne j t' st')
      | ret => exact hQ μ' a' w' e1 e2 e3
  | loop c ih =>
    intro t st e t' st' K hp h
    refine ⟨?_⟩
    intro n b T0 w0 μ a w Q ha hR hQ
    simp only [ex] at h
    simp only [exP] at hp
    split at h
    · rename_i live f hl
      rw [hl] at hp
      simp only [h] at hp
      exact (Runs.keep live hp.1).run ha hR hQ
    · rename_i hl
      rw [hl] at hp
      simp only at hp
      have key : ∀ (m : Nat) (t : List Value) (st : St), iterP m (ex T O hn k c) (exP P T O hn k c) t st K → iter m (ex T O hn k c) t st = some (e, t', st') → LoopRuns P c m t st e t' st' := by
        intro m
        induction m with
        | zero => intro t st _ h; simp [iter] at h
        | succ m ihm =>
          intro t st hp h
          simp only [iterP] at hp
          simp only [iter] at h
          cases hF : ex T O hn k c t st with
          | none => rw [hF] at h; simp at h
          | some r =>
            obtain ⟨e1, t1, s1⟩ := r
            cases e1 with
            | normal =>
              rw [hF] at h hp
              simp only at h hp
              exact LoopRuns.step (ih hp hF) (ihm t1 s1 (exP_K hp) h)
            | exit id =>
              rw [hF] at h
              simp at h; obtain ⟨rfl, rfl, rfl⟩ := h
              exact LoopRuns.stop (ih hp hF) (by simp)
            | ret =>
              rw [hF] at h
              simp at h; obtain ⟨rfl, rfl, rfl⟩ := h
              exact LoopRuns.stop (ih hp hF) (by simp)
      exact (LoopRuns.runs (key k t st hp h)).run ha hR hQ
  | exit id =>
    intro t st e t' st' K hp h
    refine ⟨?_⟩
    intro n b T0 w0 μ a w Q ha hR hQ
    simp [ex] at h; obtain ⟨rfl, rfl, rfl⟩ := h
    exact wp_exit (hQ μ a w (ExtU.refl _ _) ha hR)
  | ret =>
    intro t st e t' st' K hp h
    refine ⟨?_⟩
    intro n b T0 w0 μ a w Q ha hR hQ
    simp [ex] at h; obtain ⟨rfl, rfl, rfl⟩ := h
    exact wp_ret (hQ μ a w (ExtU.refl _ _) ha hR)
  | rangeFunc f ps as bd ih1 ih2 => intro t st e t' st' K hp h; simp [ex] at h
  | scope c ih => intro t st e t' st' K hp h; simp [ex] at h
  | goto l => intro t st e t' st' K hp h; simp [ex] at h
  | refuse why => intro t st e t' st' K hp h; simp [ex] at h

/-- Where nothing is told ahead nothing is owed (but that it runs). -/
theorem aopsP_none {rid : Nat} {ops : List Oper} : ∀ {r : List Oper} {i : Nat} {t : List Value} {s : St} {K : Prop} {x}, aopsO T O noHint rid ops r i t s = some x → K → aopsP T O noHint rid ops r i t s K := by
  intro r
  induction r with
  | nil => intro i t s K x h hk; exact hk
  | cons o r ih =>
    intro i t s K x h hk
    simp only [aopsO, astepO, noHint] at h
    simp only [aopsP, noHint]
    split at h
    · rename_i v s' inf hst
      split at h
      · rename_i is t2 s2 h2
        exact ih h2 hk
      · cases h
    · cases h

theorem loop_none (c : Code) : noHint.loop c = none := by unfold Hint.loop; split <;> rfl

theorem exP_none {k : Nat} : ∀ {c : Code} {t : List Value} {s : St} {K : Prop} {x}, ex T O noHint k c t s = some x → K → exP P T O noHint k c t s K := by
  intro c
  induction c with
  | skip => intro t s K x h hk; exact hk
  | label l => intro t s K x h hk; exact hk
  | region id ops draw =>
    intro t s K x h hk
    have e : noHint.lo (1000000 + id) = none := rfl
    simp only [ex] at h
    rw [e] at h
    simp only [exP]
    rw [e]
    simp only [aregion] at h
    split at h
    · rename_i is t2 s2 h2
      exact aopsP_none h2 hk
    · cases h
  | seq x y ihx ihy =>
    intro t s K z h hk
    simp only [ex] at h
    simp only [exP]
    split at h
    · rename_i t1 s1 h1
      exact ihx h1 (ihy h hk)
    · rename_i hne
      exact ihx h hk
  | cond x p q ihp ihq =>
    intro t s K z h hk
    simp only [ex] at h
    simp only [exP]
    split at h
    · exact ihp h hk
    · exact ihq h hk
    · cases h
  | block id c ih =>
    intro t s K z h hk
    simp only [ex] at h
    simp only [exP]
    split at h
    · rename_i j t1 s1 h1; exact ih h1 hk
    · exact ih h hk
  | loop c ih =>
    intro t s K z h hk
    simp only [ex, loop_none] at h
    simp only [exP, loop_none]
    have key : ∀ (m : Nat) (t : List Value) (s : St), iter m (ex T O noHint k c) t s = some z → iterP m (ex T O noHint k c) (exP P T O noHint k c) t s K := by
      intro m
      induction m with
      | zero => intro t s h; simp [iter] at h
      | succ m ihm =>
        intro t s h
        simp only [iter] at h
        simp only [iterP]
        cases hF : ex T O noHint k c t s with
        | none => rw [hF] at h; simp at h
        | some r =>
          obtain ⟨e1, t1, s1⟩ := r
          refine ih hF ?_
          cases e1 with
          | normal => rw [hF] at h; simp only at h ⊢; exact ihm t1 s1 h
          | exit id => exact hk
          | ret => exact hk
    exact key k t s h
  | exit id => intro t s K z h hk; exact hk
  | ret => intro t s K z h hk; exact hk
  | rangeFunc f ps as bd ih1 ih2 => intro t s K z h; simp [ex] at h
  | scope c ih => intro t s K z h; simp [ex] at h
  | goto l => intro t s K z h; simp [ex] at h
  | refuse why => intro t s K z h; simp [ex] at h

def ares1 (T : Tab) (t : List Value) (s : St) : ResultVar → Option Value
  | .tmp d => aeval t (.tmp d)
  | .cell d ty => match aeval t (.tmp d) with
    | some v => match aload T s ty v with
      | some (u, _) => some u
      | none => none
    | none => none

def aresults (T : Tab) (rs : List ResultVar) (t : List Value) (s : St) : Option Value :=
  match mapO (ares1 T t s) rs with
  | some [v] => some v
  | some vs => some (.tuple vs.toArray)
  | none => none

/-- A function's body, run. -/
def abody (T : Tab) (O : Orc) (h : Hint) (n : Nat) (c : Code) (ntmps : Nat) (rs : List ResultVar) (args : List Value) (st : St) : Option (Value × St) :=
  match ex T O h n c (args ++ List.replicate (ntmps - args.length) undef) st with
  | some (.normal, t, s) => match aresults T rs t s with
    | some v => some (v, s)
    | none => none
  | some (.ret, t, s) => match aresults T rs t s with
    | some v => some (v, s)
    | none => none
  | _ => none

include hT in
theorem ares_sound {μ : List Place} {t : List Value} {a : Act} {st : St} {w : World} (ha : AR μ t a) (hG : Good μ st w) : ∀ {rs : List ResultVar} {vs : List Value}, mapO (ares1 T t st) rs = some vs →
    ∃ vs', (rs.mapM fun | .tmp t => pure (a.tmps.getD t undef) | .cell p t => do loadVar t (← asAddr (a.tmps.getD p undef)) : Sem (List Value)).run P w = .ok vs' w ∧ VRs μ vs vs' := by
  intro rs
  induction rs with
  | nil => intro vs h; simp [mapO] at h; subst h; exact ⟨[], by simp, .nil⟩
  | cons r rs ih =>
    intro vs h
    simp only [mapO] at h
    split at h
    · rename_i v hv
      split at h
      · rename_i l hl
        simp at h; subst h
        obtain ⟨vs', h1, h2⟩ := ih hl
        cases r with
        | tmp d =>
          obtain ⟨hv, hu⟩ := aeval_tmp.1 hv
          obtain ⟨y, hy, hyv⟩ := ha.tmps.get hv
          have hyv := hyv.resolve_left (by rw [hu]; simp)
          have hy' : a.tmps[d]? = some y := by simpa using hy
          refine ⟨y :: vs', ?_, .cons hyv h2⟩
          rw [List.mapM_cons]
          simp only [Sem.run_bind, Sem.run_pure, Result.andThen_ok, h1]
          simp [hy']
        | cell d ty =>
          simp only [ares1] at hv
          split at hv
          · rename_i u hu
            split at hv
            · rename_i u2 i hl2
              simp at hv; subst hv
              obtain ⟨hu, hun⟩ := aeval_tmp.1 hu
              obtain ⟨y, hy, hyv⟩ := ha.tmps.get hu
              have hyv := hyv.resolve_left (by rw [hun]; simp)
              have hy' : a.tmps[d]? = some y := by simpa using hy
              obtain ⟨r, hr, hrv⟩ := aload_sound (P := P) hT hG hl2 hyv
              refine ⟨r :: vs', ?_, .cons hrv h2⟩
              rw [List.mapM_cons]
              have hload : (do loadVar ty (← asAddr (a.tmps.getD d undef)) : Sem Value).run P w = .ok r w := by
                have hd : a.tmps.getD d undef = y := by simp [hy']
                rw [hd]
                unfold aload at hl2
                split at hl2
                · obtain ⟨p, hp, rfl⟩ := hyv.ptr_inv
                  simpa [Instr.loadAt, Instr.sureAddr, asAddr] using hr
                · cases hl2
              rw [Sem.run_bind]
              change Result.andThen (Sem.run P (do loadVar ty (← asAddr (a.tmps.getD d undef)) : Sem Value) w) _ = _
              rw [hload]
              simp only [Result.andThen_ok, Sem.run_bind, h1, Sem.run_pure]
            · cases hv
          · cases hv
      · cases h
    · cases h

include hT in
theorem aresults_sound {μ : List Place} {t : List Value} {a : Act} {st : St} {w : World} {fn : Func} {v : Value} (ha : AR μ t a) (hG : Good μ st w) (h : aresults T fn.results.toList t st = some v) :
    ∃ r, (results fn a.tmps).run P w = .ok r w ∧ VR μ v r := by
  unfold aresults at h
  have hres : ∀ vs', (fn.results.toList.mapM fun | .tmp t => pure (a.tmps.getD t undef) | .cell p t => do loadVar t (← asAddr (a.tmps.getD p undef)) : Sem (List Value)).run P w = .ok vs' w →
      (results fn a.tmps).run P w = .ok (if h : vs'.toArray.size = 1 then vs'.toArray[0] else .tuple vs'.toArray) w := by
    intro vs' h
    unfold results
    rw [Sem.run_bind, Array.mapM_eq_mapM_toList, Sem.run_map]
    refine (congrArg (fun z => Result.andThen (Result.andThen z _) _) h).trans ?_
    rfl
  split at h
  · rename_i u hu
    simp at h; subst h
    obtain ⟨vs', h1, h2⟩ := ares_sound (P := P) hT ha hG hu
    obtain ⟨y, l, rfl, hy, hl⟩ := h2.uncons
    rw [hl.eq_nil] at h1
    exact ⟨y, by rw [hres _ h1]; simp, hy⟩
  · rename_i vs hvs hne
    simp at h; subst h
    obtain ⟨vs', h1, h2⟩ := ares_sound (P := P) hT ha hG hne
    refine ⟨_, hres _ h1, ?_⟩
    have hl := h2.1
    rw [dif_neg (by
      simp only [List.size_toArray]
      intro h1
      rw [← hl] at h1
      obtain ⟨x, rfl⟩ := List.length_eq_one_iff.1 h1
      exact hvs x rfl)]
    exact h2.tuple
  · cases h

/-- Old regions keep their kinds. -/
def kindsOk : St → St → Bool
  | [], _ => true
  | a :: r, b :: s => (match a, b with
    | _, none => true
    | some x, some y => x.kind == y.kind
    | none, some _ => false) && kindsOk r s
  | _ :: r, [] => true
theorem kindsOk_spec : ∀ {st st' : St}, kindsOk st st' = true → ∀ (i : Nat) (r : Reg), i < st.length → st'[i]? = some (some r) → ∃ r0, st[i]? = some (some r0) ∧ r.kind = r0.kind := by
  intro st
  induction st with
  | nil => intro st' _ i r hi; simp at hi
  | cons a l ih =>
    intro st' h i r hi hr
    cases st' with
    | nil => simp at hr
    | cons y s =>
      simp only [kindsOk, Bool.and_eq_true] at h
      cases i with
      | zero =>
        simp at hr; subst hr
        cases a with
        | none => simp at h
        | some x => exact ⟨x, rfl, by have := h.1; simp at this; exact this.symm⟩
      | succ i => exact ih h.2 i r (by simpa using hi) (by simpa using hr)

theorem R.after {μ μ' st st' w w'} (h : R w.heap.size st.length (Touch μ st) w μ' st' w') (hk : kindsOk st st' = true) : After μ st w μ' st' w' :=
  ⟨h.good, h.own, h.frame, fun i r p hi hr hp => h.news i r p hr hp (.inl hi), kindsOk_spec hk⟩

include hT hO hmix in
/-- A function's contract, out of its body's run. -/
theorem AC.of_body {f : FuncId} {fn : Func} {c : Code} {hint : Hint} {k : Nat} {args : List Value} {st : St} {res : Value} {st' : St} (hf : P.funcs[f]? = some fn) (hb : fn.body = some c)
    (hn : noRow st = true) (hP : exP P T O hint k c (args ++ List.replicate (fn.ntmps - args.length) undef) st True) (h : abody T O hint k c fn.ntmps fn.results.toList args st = some (res, st')) (hk : kindsOk st st' = true) : AC P f args st res st' := by
  intro μ w rargs hargs hG
  refine calls_of_wp hf hb ?_
  have ha : AR μ (args ++ List.replicate (fn.ntmps - args.length) undef) { tmps := rargs ++ Array.replicate (fn.ntmps - rargs.size) undef, defers := [] } := by
    refine ⟨?_, rfl⟩
    simp only [Array.toList_append, Array.toList_replicate]
    have : args.length = rargs.size := by have := hargs.1; simpa using this
    rw [this]
    refine VRs.ts (hargs.append ⟨rfl, fun i x y hx hy => ?_⟩)
    have e1 := List.mem_of_getElem? hx
    have e2 := List.mem_of_getElem? hy
    simp at e1 e2
    rw [e1.2, e2.2]; exact .undef
  unfold abody at h
  split at h
  · rename_i t s hex
    split at h
    · rename_i v hv
      simp at h; obtain ⟨rfl, rfl⟩ := h
      refine (ex_runs hT hO hmix hP hex).run ha (R.start hG hn) ?_
      intro μ' a' w' e1 e2 e3
      obtain ⟨r, h1, h2⟩ := aresults_sound hT e2 e3.good hv
      exact ⟨e2.defers, r, h1, μ', r, rfl, h2, fun i p hp => e1 i p (by rw [← hG.len]; exact (List.getElem?_eq_some_iff.1 hp).1) hp, e3.after hk⟩
    · cases h
  · rename_i t s hex
    split at h
    · rename_i v hv
      simp at h; obtain ⟨rfl, rfl⟩ := h
      refine (ex_runs hT hO hmix hP hex).run ha (R.start hG hn) ?_
      intro μ' a' w' e1 e2 e3
      obtain ⟨r, h1, h2⟩ := aresults_sound hT e2 e3.good hv
      exact ⟨e2.defers, r, h1, μ', r, rfl, h2, fun i p hp => e1 i p (by rw [← hG.len]; exact (List.getElem?_eq_some_iff.1 hp).1) hp, e3.after hk⟩
    · cases h
  · cases h
end
end Go.Proofs.Ytggkdjhgknghcaa.Am
