/- This text holds a part of the machinery of the proof, without conditions of its own: the abstract machine: values, memory, operations that hang on their operands alone. -/
import Derived.Orders
import Derived.Laws.Sem
import Derived.Laws.Cells
import Derived.Laws.Tables
namespace Go.Proofs.Ytggkdjhgknghcaa.Am

/-- Where a region of the abstract memory lies: the block, its first cell; of a row that may be appended to: the block's size, and an element's cells. -/
structure Place where
  block : Nat
  off : Nat
  lim : Nat
  esz : Nat

/-- An abstract value (its addresses name regions) and the value that it stands for. -/
inductive VR (μ : List Place) : Value → Value → Prop
  | bool (b) : VR μ (.bool b) (.bool b)
  | int (k n) : VR μ (.int k n) (.int k n)
  | string (s) : VR μ (.string s) (.string s)
  | nilp : VR μ (.pointer none) (.pointer none)
  | ptr (i off p) : μ[i]? = some p → VR μ (.pointer (some ⟨i, off, none⟩)) (.pointer (some ⟨p.block, p.off + off, none⟩))
  | nils : VR μ (.slice none 0 0) (.slice none 0 0)
  | slice (i off len c c' p) : μ[i]? = some p → c ≤ c' →
      VR μ (.slice (some ⟨i, off, none⟩) len c) (.slice (some ⟨p.block, p.off + off, none⟩) len c')
  | row (i len c c' p) : μ[i]? = some p → c ≤ c' → p.off = 0 → p.esz ≠ 0 → c' * p.esz ≤ p.lim →
      VR μ (.slice (some ⟨i, 0, some 1⟩) len c) (.slice (some ⟨p.block, 0, none⟩) len c')
  | row0 (i) : VR μ (.slice (some ⟨i, 0, some 1⟩) 0 0) (.slice none 0 0)
  | slice0 (i off a c) : VR μ (.slice (some ⟨i, off, none⟩) 0 0) (.slice a 0 c)
  | empty (a c) : VR μ (.slice (some ⟨0, 0, some 0⟩) 0 0) (.slice a 0 c)
  | nilIface : VR μ .nilIface .nilIface
  | nilFunc : VR μ .nilFunc .nilFunc
  | iface (t v v') : VR μ v v' → VR μ (.iface t v) (.iface t v')
  | agg (xs ys : Array Value) : xs.size = ys.size → (∀ (i : Nat) (x y : Value), xs[i]? = some x → ys[i]? = some y → VR μ x y) → VR μ (.agg xs) (.agg ys)
  | tuple (xs ys : Array Value) : xs.size = ys.size → (∀ (i : Nat) (x y : Value), xs[i]? = some x → ys[i]? = some y → VR μ x y) → VR μ (.tuple xs) (.tuple ys)
  | func (fn : Fn) (xs ys cs ds : Array Value) : xs.size = ys.size → (∀ (i : Nat) (x y : Value), xs[i]? = some x → ys[i]? = some y → VR μ x y) →
      cs.size = ds.size → (∀ (i : Nat) (x y : Value), cs[i]? = some x → ds[i]? = some y → VR μ x y) → VR μ (.func fn xs cs) (.func fn ys ds)

def Ext (μ μ' : List Place) : Prop := ∀ (i : Nat) p, μ[i]? = some p → μ'[i]? = some p
theorem Ext.refl (μ) : Ext μ μ := fun _ _ h => h
theorem Ext.trans {a b c} (h : Ext a b) (k : Ext b c) : Ext a c := fun i p e => k i p (h i p e)
theorem Ext.append (μ ν : List Place) : Ext μ (μ ++ ν) := fun i p h => by
  rw [List.getElem?_append_left (List.getElem?_eq_some_iff.1 h).1]; exact h

theorem Ext.length {μ μ'} (h : Ext μ μ') : μ.length ≤ μ'.length := by
  apply Decidable.byContradiction
  intro hlt
  have h1 := h μ'.length (μ[μ'.length]'(by omega)) (List.getElem?_eq_getElem _)
  have := (List.getElem?_eq_some_iff.1 h1).1
  omega
/-- The first b places stay. -/
def ExtU (b : Nat) (μ μ' : List Place) : Prop := ∀ (i : Nat) p, i < b → μ[i]? = some p → μ'[i]? = some p
theorem Ext.upto {μ μ'} (h : Ext μ μ') (b : Nat) : ExtU b μ μ' := fun i p _ e => h i p e
theorem ExtU.refl (b μ) : ExtU b μ μ := fun _ _ _ h => h
theorem ExtU.trans {b μ μ' μ2} (h : ExtU b μ μ') (k : ExtU b μ' μ2) : ExtU b μ μ2 := fun i p hi e => k i p hi (h i p hi e)

theorem VR.mono {μ μ'} (he : Ext μ μ') {a b} (h : VR μ a b) : VR μ' a b := by
  induction h with
  | bool b => exact .bool b
  | int k n => exact .int k n
  | string s => exact .string s
  | nilp => exact .nilp
  | ptr i off p hp => exact .ptr i off p (he _ _ hp)
  | nils => exact .nils
  | slice i off len c c' p hp h1 => exact .slice i off len c c' p (he _ _ hp) h1
  | row i len c c' p hp h1 h2 h3 h4 => exact .row i len c c' p (he _ _ hp) h1 h2 h3 h4
  | row0 i => exact .row0 i
  | slice0 i off a c => exact .slice0 i off a c
  | empty a c => exact .empty a c
  | nilIface => exact .nilIface
  | nilFunc => exact .nilFunc
  | iface t v v' _ ih => exact .iface t v v' ih
  | agg xs ys hs _ ih => exact .agg xs ys hs ih
  | tuple xs ys hs _ ih => exact .tuple xs ys hs ih
  | func fn xs ys cs ds h1 _ h2 _ ih1 ih2 => exact .func fn xs ys cs ds h1 ih1 h2 ih2

/-- Lists of values, one by one. -/
def VRs (μ : List Place) (xs ys : List Value) : Prop := xs.length = ys.length ∧ ∀ (i : Nat) x y, xs[i]? = some x → ys[i]? = some y → VR μ x y

theorem VRs.mono {μ μ'} (he : Ext μ μ') {xs ys} (h : VRs μ xs ys) : VRs μ' xs ys := ⟨h.1, fun i x y a b => (h.2 i x y a b).mono he⟩
theorem VRs.nil {μ} : VRs μ [] [] := ⟨rfl, fun i x y h => by simp at h⟩
theorem VRs.cons {μ x y xs ys} (h : VR μ x y) (t : VRs μ xs ys) : VRs μ (x :: xs) (y :: ys) := by
  refine ⟨by simp [t.1], fun i a b ha hb => ?_⟩
  cases i with
  | zero => simp at ha hb; subst ha; subst hb; exact h
  | succ i => simp at ha hb; exact t.2 i a b ha hb
theorem VRs.uncons {μ x xs ys} (h : VRs μ (x :: xs) ys) : ∃ y ys', ys = y :: ys' ∧ VR μ x y ∧ VRs μ xs ys' := by
  cases ys with
  | nil => simp [VRs] at h
  | cons y ys' => exact ⟨y, ys', rfl, h.2 0 x y rfl rfl, by simpa using h.1, fun i a b ha hb => h.2 (i+1) a b (by simpa using ha) (by simpa using hb)⟩
theorem VRs.eq_nil {μ ys} (h : VRs μ [] ys) : ys = [] := by cases ys with | nil => rfl | cons y l => simp [VRs] at h
theorem VRs.get {μ xs ys} (h : VRs μ xs ys) {i : Nat} {x} (hx : xs[i]? = some x) : ∃ y, ys[i]? = some y ∧ VR μ x y := by
  have hl := (List.getElem?_eq_some_iff.1 hx).1
  have hl' : i < ys.length := h.1 ▸ hl
  exact ⟨ys[i], List.getElem?_eq_getElem hl', h.2 i x _ hx (List.getElem?_eq_getElem hl')⟩
theorem VRs.append {μ xs ys as bs} (h : VRs μ xs ys) (k : VRs μ as bs) : VRs μ (xs ++ as) (ys ++ bs) := by
  refine ⟨by simp [h.1, k.1], fun i x y hx hy => ?_⟩
  by_cases hi : i < xs.length
  · rw [List.getElem?_append_left hi] at hx; rw [List.getElem?_append_left (h.1 ▸ hi)] at hy; exact h.2 i x y hx hy
  · rw [List.getElem?_append_right (by omega)] at hx; rw [List.getElem?_append_right (by have := h.1; omega)] at hy
    rw [← h.1] at hy; exact k.2 _ x y hx hy
theorem VRs.take {μ xs ys} (h : VRs μ xs ys) (n : Nat) : VRs μ (xs.take n) (ys.take n) := by
  refine ⟨by simp [h.1], fun i x y hx hy => ?_⟩
  rw [List.getElem?_take] at hx hy
  split at hx
  · rename_i hi; rw [if_pos hi] at hy; exact h.2 i x y hx hy
  · cases hx
theorem VRs.drop {μ xs ys} (h : VRs μ xs ys) (n : Nat) : VRs μ (xs.drop n) (ys.drop n) := by
  refine ⟨by simp [h.1], fun i x y hx hy => ?_⟩
  rw [List.getElem?_drop] at hx hy
  exact h.2 _ x y hx hy
theorem VRs.set {μ xs ys} (h : VRs μ xs ys) {a b} (hv : VR μ a b) (n : Nat) : VRs μ (xs.set n a) (ys.set n b) := by
  refine ⟨by simp [h.1], fun i x y hx hy => ?_⟩
  rw [List.getElem?_set] at hx hy
  by_cases e : n = i
  · subst e; rw [if_pos rfl] at hx hy
    split at hx <;> simp at hx
    split at hy <;> simp at hy
    subst hx; subst hy; exact hv
  · rw [if_neg e] at hx hy; exact h.2 i x y hx hy
theorem VRs.of_agg {μ} {xs ys : Array Value} (h : VR μ (.agg xs) (.agg ys)) : VRs μ xs.toList ys.toList := by
  cases h with
  | agg _ _ hs h => exact ⟨by simpa using hs, fun i x y hx hy => h i x y (by simpa using hx) (by simpa using hy)⟩
theorem VRs.agg {μ} {xs ys : List Value} (h : VRs μ xs ys) : VR μ (.agg xs.toArray) (.agg ys.toArray) :=
  .agg _ _ (by simpa using h.1) fun i x y hx hy => h.2 i x y (by simpa using hx) (by simpa using hy)
theorem VRs.tuple {μ} {xs ys : List Value} (h : VRs μ xs ys) : VR μ (.tuple xs.toArray) (.tuple ys.toArray) :=
  .tuple _ _ (by simpa using h.1) fun i x y hx hy => h.2 i x y (by simpa using hx) (by simpa using hy)

/-- A value without addresses. -/
def plain0 : Value → Bool
  | .bool _ | .int _ _ | .string _ | .pointer none | .slice none 0 0 | .nilIface | .nilFunc => true
  | _ => false
def plain : Value → Bool
  | .agg cs => cs.toList.all plain0
  | .tuple cs => cs.toList.all plain0
  | v => plain0 v
theorem VR.plain0 {μ v} (h : plain0 v = true) : VR μ v v := by
  cases v with
  | bool b => exact .bool b
  | int k n => exact .int k n
  | string s => exact .string s
  | pointer a => cases a with
    | none => exact .nilp
    | some a => simp [Am.plain0] at h
  | slice a l c =>
    cases a with
    | none =>
      cases l with
      | zero => cases c with
        | zero => exact .nils
        | succ c => simp [Am.plain0] at h
      | succ l => simp [Am.plain0] at h
    | some a => simp [Am.plain0] at h
  | nilIface => exact .nilIface
  | nilFunc => exact .nilFunc
  | _ => simp [Am.plain0] at h
theorem VRs.plain0 {μ} {l : List Value} (h : l.all Am.plain0 = true) : VRs μ l l := by
  refine ⟨rfl, fun i x y hx hy => ?_⟩
  rw [hx] at hy; cases hy
  exact .plain0 (List.all_eq_true.1 h x (List.mem_of_getElem? hx))
theorem VR.plain {μ v} (h : plain v = true) : VR μ v v := by
  cases v with
  | agg cs => have := VRs.agg (VRs.plain0 (μ := μ) (l := cs.toList) h); simpa using this
  | tuple cs => have := VRs.tuple (VRs.plain0 (μ := μ) (l := cs.toList) h); simpa using this
  | _ => exact VR.plain0 h
theorem VR.undef {μ} : VR μ undef undef := .tuple #[] #[] rfl (fun i x y h => by simp at h)

/-- One cell's values. -/
def oneC : Value → Bool
  | .agg _ | .tuple _ => false
  | _ => true
theorem VR.oneC {μ a b} (h : VR μ a b) : oneC b = oneC a := by cases h <;> rfl
theorem VR.cells {μ a b} (h : VR μ a b) : VRs μ a.cells.toList b.cells.toList := by
  cases h with
  | agg xs ys hs h => exact ⟨by simpa [Value.cells] using hs, fun i x y hx hy => h i x y (by simpa [Value.cells] using hx) (by simpa [Value.cells] using hy)⟩
  | _ => all_goals (refine VRs.cons ?_ VRs.nil; constructor <;> assumption)

inductive RK where
  | ro | rw | row (esz : Nat)
  deriving DecidableEq

structure Reg where
  cells : List Value
  kind : RK

abbrev St := List (Option Reg)

/-- Cell k of block b is one of the region's. -/
def inside (p : Place) (r : Reg) (b k : Nat) : Prop := p.block = b ∧ (((∃ e, r.kind = .row e) ∧ k < p.lim) ∨ (p.off ≤ k ∧ k < p.off + r.cells.length))

def RegOk (μ : List Place) (w : World) (p : Place) (r : Reg) : Prop :=
  (∀ b k, inside p r b k → p.block < w.heap.size) ∧
  (∀ (k : Nat) v, r.cells[k]? = some v → ∃ v', w.cell? ⟨p.block, p.off + k, none⟩ = some v' ∧ VR μ v v') ∧
  match r.kind with
  | .ro => True
  | .rw => ∀ k, k < r.cells.length → w.frozen? ⟨p.block, p.off + k, none⟩ = false
  | .row e => p.off = 0 ∧ p.esz = e ∧ e ≠ 0 ∧ r.cells.length ≤ p.lim ∧ (p.lim = 0 ∨ ∃ cs t, w.heap[p.block]? = some (.cells cs t (0, 0)) ∧ cs.size = p.lim)

/-- Cell k of block b may be written by whoever holds the region. -/
def covers (p : Place) (r : Reg) (b k : Nat) : Prop := r.kind ≠ .ro ∧ p.block = b ∧ (((∃ e, r.kind = .row e) ∧ k < p.lim) ∨ (p.off ≤ k ∧ k < p.off + r.cells.length))
theorem covers.inside {p r b k} (h : covers p r b k) : inside p r b k := h.2

def Touch (μ : List Place) (st : St) (b k : Nat) : Prop := ∃ (i : Nat) (r : Reg) (p : Place), st[i]? = some (some r) ∧ μ[i]? = some p ∧ covers p r b k

def Sep (μ : List Place) (st : St) : Prop :=
  ∀ (i j : Nat) r r' p p', i ≠ j → st[i]? = some (some r) → st[j]? = some (some r') → μ[i]? = some p → μ[j]? = some p' → ∀ b k, covers p r b k → ¬ inside p' r' b k

structure Good (μ : List Place) (st : St) (w : World) : Prop where
  len : μ.length = st.length
  ok : ∀ (i : Nat) r p, st[i]? = some (some r) → μ[i]? = some p → RegOk μ w p r
  sep : Sep μ st

/-- Of the blocks below n nothing has turned but the cells that T names. -/
structure Stays (n : Nat) (T : Nat → Nat → Prop) (w w' : World) : Prop where
  os : w'.os = w.os
  tape : w'.tape = w.tape
  output : w'.output = w.output
  size : w.heap.size ≤ w'.heap.size
  cells : ∀ b cs t fr, b < n → w.heap[b]? = some (.cells cs t fr) → ∃ cs', w'.heap[b]? = some (.cells cs' t fr) ∧ cs'.size = cs.size ∧ ∀ k, ¬ T b k → cs'[k]? = cs[k]?
  other : ∀ b o, b < n → w.heap[b]? = some o → (∀ cs t fr, o ≠ .cells cs t fr) → w'.heap[b]? = some o

theorem Stays.refl (n T w) : Stays n T w w := ⟨rfl, rfl, rfl, Nat.le_refl _, fun _ cs _ _ _ h => ⟨cs, h, rfl, fun _ _ => rfl⟩, fun _ _ _ h _ => h⟩

theorem Stays.trans {n n' T T' w w1 w2} (h : Stays n T w w1) (k : Stays n' T' w1 w2) (hn : n ≤ n') (ht : ∀ b i, b < n → T' b i → T b i) : Stays n T w w2 := by
  refine ⟨k.os.trans h.os, k.tape.trans h.tape, k.output.trans h.output, Nat.le_trans h.size k.size, ?_, ?_⟩
  · intro b cs t fr hb hc
    obtain ⟨cs1, h1, h2, h3⟩ := h.cells b cs t fr hb hc
    obtain ⟨cs2, k1, k2, k3⟩ := k.cells b cs1 t fr (by omega) h1
    exact ⟨cs2, k1, k2.trans h2, fun i hi => (k3 i (fun hh => hi (ht b i hb hh))).trans (h3 i hi)⟩
  · intro b o hb ho hne
    exact k.other b o (by omega) (h.other b o hb ho hne) hne

theorem Stays.cell {n T w w'} (h : Stays n T w w') {b k : Nat} (hb : b < n) (hb' : b < w.heap.size) (hk : ¬ T b k) : w'.cell? ⟨b, k, none⟩ = w.cell? ⟨b, k, none⟩ := by
  unfold World.cell?
  simp only [Option.isSome_none, Bool.false_eq_true, if_false]
  cases ho : w.heap[b]? with
  | none => simp at ho; omega
  | some o =>
    cases o with
    | cells cs t fr =>
      obtain ⟨cs', h1, h2, h3⟩ := h.cells b cs t fr hb ho
      simp only [h1, h3 k hk]
    | _ => rw [h.other b _ hb ho (by intro _ _ _ hh; cases hh)]
theorem Stays.frozen {n T w w'} (h : Stays n T w w') {b k : Nat} (hb : b < n) (hb' : b < w.heap.size) : w'.frozen? ⟨b, k, none⟩ = w.frozen? ⟨b, k, none⟩ := by
  unfold World.frozen?
  cases ho : w.heap[b]? with
  | none => simp at ho; omega
  | some o =>
    cases o with
    | cells cs t fr =>
      obtain ⟨cs', h1, h2, h3⟩ := h.cells b cs t fr hb ho
      simp only [h1]
    | _ => rw [h.other b _ hb ho (by intro _ _ _ hh; cases hh)]

def Own (n : Nat) (T : Nat → Nat → Prop) (μ : List Place) (st : St) : Prop := ∀ b k, Touch μ st b k → n ≤ b ∨ T b k

/-- What is known of memory behind some steps: n blocks there were, b regions; T: what might be written; w0: the world then. -/
structure R (n b : Nat) (T : Nat → Nat → Prop) (w0 : World) (μ : List Place) (st : St) (w : World) : Prop where
  good : Good μ st w
  own : Own n T μ st
  frame : Stays n T w0 w
  le : n ≤ w0.heap.size
  /-- Regions that came since, and rows that may grow, lie in new blocks. -/
  news : ∀ (i : Nat) (r : Reg) (p : Place), st[i]? = some (some r) → μ[i]? = some p → (b ≤ i ∨ ∃ e, r.kind = .row e) → n ≤ p.block
  /-- The regions that were there are no rows. -/
  prot : b ≤ st.length ∧ ∀ (i : Nat) (r : Reg) (e : Nat), i < b → st[i]? = some (some r) → r.kind ≠ .row e

def noRow (st : St) : Bool := st.all fun x => match x with
  | some r => match r.kind with
    | .row _ => false
    | _ => true
  | none => true

theorem noRow_spec {st : St} (h : noRow st = true) {i : Nat} {r : Reg} (hi : st[i]? = some (some r)) (e : Nat) : r.kind ≠ .row e := by
  intro hk
  have := List.all_eq_true.1 h _ (List.mem_of_getElem? hi)
  simp [hk] at this

theorem R.start {μ st w} (h : Good μ st w) (hr : noRow st = true) : R w.heap.size st.length (Touch μ st) w μ st w := by
  refine ⟨h, fun _ _ h => .inr h, .refl _ _ _, Nat.le_refl _, ?_, Nat.le_refl _, fun i r e _ hi => noRow_spec hr hi e⟩
  intro i r p hi hp hb
  rcases hb with hb | ⟨e, he⟩
  · have := (List.getElem?_eq_some_iff.1 hi).1; omega
  · exact absurd he (noRow_spec hr hi e)

/-- Behind a call: what a contract tells of memory. -/
structure After (μ : List Place) (st : St) (w : World) (μ' : List Place) (st' : St) (w' : World) : Prop where
  good : Good μ' st' w'
  own : Own w.heap.size (Touch μ st) μ' st'
  frame : Stays w.heap.size (Touch μ st) w w'
  news : ∀ (i : Nat) (r : Reg) (p : Place), st.length ≤ i → st'[i]? = some (some r) → μ'[i]? = some p → w.heap.size ≤ p.block
  kinds : ∀ (i : Nat) (r : Reg), i < st.length → st'[i]? = some (some r) → ∃ r0, st[i]? = some (some r0) ∧ r.kind = r0.kind

/-- The contract of a function, over the memory that it is told of: whatever else there is stays as it is. -/
def AC (P : Program) (f : FuncId) (args : List Value) (st : St) (res : Value) (st' : St) : Prop :=
  ∀ (μ : List Place) (w : World) (rargs : Array Value), VRs μ args rargs.toList → Good μ st w →
    Calls P f rargs w fun e w' => ∃ μ' v, e = .returned v ∧ VR μ' res v ∧ Ext μ μ' ∧ After μ st w μ' st' w'

/-- A call inside a caller: what the caller knows goes on. -/
theorem R.call {n b T w0 μ st w μ' st' w'} (h : R n b T w0 μ st w) (hext : Ext μ μ') (k : After μ st w μ' st' w') : R n b T w0 μ' st' w' := by
  have hs := h.frame.size
  have hl := h.le
  refine ⟨k.good, ?_, ?_, hl, ?_, ?_, ?_⟩
  · intro b i hb
    rcases k.own b i hb with hb | hb
    · exact .inl (by omega)
    · exact h.own b i hb
  · refine h.frame.trans k.frame (by omega) ?_
    intro b i hb ht
    rcases h.own b i ht with h1 | h1
    · omega
    · exact h1
  · intro i r p hi hp hb
    by_cases hlt : i < st.length
    · obtain ⟨r0, h0, hk⟩ := k.kinds i r hlt hi
      have hm : i < μ.length := by have := h.good.len; omega
      have hp0 : μ[i]? = some p := by
        have h1 : μ[i]? = some μ[i] := List.getElem?_eq_getElem hm
        have h2 := hext _ _ h1
        rw [hp] at h2; cases h2; exact h1
      exact h.news i r0 p h0 hp0 (by rw [← hk]; exact hb)
    · have := k.news i r p (by omega) hi hp
      omega
  · have h1 := hext.length
    have h2 := h.good.len
    have h3 := k.good.len
    have := h.prot.1
    omega
  · intro i r e hi hr hk
    have := h.prot.1
    obtain ⟨r0, h0, hk0⟩ := k.kinds i r (by omega) hr
    exact h.prot.2 i r0 e hi h0 (hk0 ▸ hk)

end Go.Proofs.Ytggkdjhgknghcaa.Am

namespace Go.Proofs.Ytggkdjhgknghcaa.Am

theorem cell_block {w : World} {b k : Nat} {v : Value} (h : w.cell? ⟨b, k, none⟩ = some v) :
    ∃ cs t fr, w.heap[b]? = some (.cells cs t fr) ∧ cs[k]? = some v := by
  unfold World.cell? at h
  simp only [Option.isSome_none, Bool.false_eq_true, if_false] at h
  split at h
  · rename_i c t fr hc
    exact ⟨c, t, fr, hc, h⟩
  · cases h

theorem cell_of {w : World} {b k : Nat} {cs t fr} (h : w.heap[b]? = some (.cells cs t fr)) : w.cell? ⟨b, k, none⟩ = cs[k]? := by
  simp [World.cell?, h]
theorem frozen_of {w : World} {b k : Nat} {cs t} (h : w.heap[b]? = some (.cells cs t (0, 0))) : w.frozen? ⟨b, k, none⟩ = false := by
  simp [World.frozen?, h]

theorem setCell_heap {w : World} {b k : Nat} {v : Value} {cs t fr} (h : w.heap[b]? = some (.cells cs t fr)) (c : Nat) :
    (w.setCell ⟨b, k, none⟩ v).heap[c]? = if c = b then some (.cells (cs.setIfInBounds k v) t fr) else w.heap[c]? := by
  simp only [World.setCell, Array.getElem?_modify]
  by_cases e : b = c
  · subst e; simp [h]
  · rw [if_neg e, if_neg (fun h => e h.symm)]

theorem setCell_size (w : World) (a : Addr) (v : Value) : (w.setCell a v).heap.size = w.heap.size := by simp [World.setCell]

theorem setCell_cell {w : World} {b k : Nat} {v x : Value} (h : w.cell? ⟨b, k, none⟩ = some x) (c j : Nat) :
    (w.setCell ⟨b, k, none⟩ v).cell? ⟨c, j, none⟩ = if c = b ∧ j = k then some v else w.cell? ⟨c, j, none⟩ := by
  obtain ⟨cs, t, fr, hc, hk⟩ := cell_block h
  by_cases e : c = b
  · subst e
    have h1 := setCell_heap (k := k) (v := v) hc c
    rw [if_pos rfl] at h1
    rw [cell_of h1, cell_of hc, Array.getElem?_setIfInBounds]
    have hlt := (Array.getElem?_eq_some_iff.1 hk).1
    by_cases e2 : j = k
    · subst e2; simp [hlt]
    · rw [if_neg (fun h => e2 h.symm)]; simp [e2]
  · have h1 := setCell_heap (k := k) (v := v) hc c
    rw [if_neg e] at h1
    simp only [World.cell?, h1]
    rw [if_neg (by simp [e])]

theorem setCell_frozen {w : World} {b k : Nat} {v x : Value} (h : w.cell? ⟨b, k, none⟩ = some x) (c j : Nat) :
    (w.setCell ⟨b, k, none⟩ v).frozen? ⟨c, j, none⟩ = w.frozen? ⟨c, j, none⟩ := by
  obtain ⟨cs, t, fr, hc, hk⟩ := cell_block h
  have h1 := setCell_heap (k := k) (v := v) hc c
  by_cases e : c = b
  · subst e
    rw [if_pos rfl] at h1
    simp only [World.frozen?, h1, hc]
  · rw [if_neg e] at h1
    simp only [World.frozen?, h1]

/-- What stands in a region behind a write at place k: one turned, or one behind the last. -/
def putAt (l : List Value) (k : Nat) (v : Value) : List Value := if k < l.length then l.set k v else l ++ [v]

theorem putAt_get {l : List Value} {k : Nat} {v : Value} (hk : k ≤ l.length) (j : Nat) {x : Value} (h : (putAt l k v)[j]? = some x) :
    (j = k ∧ x = v) ∨ (j ≠ k ∧ l[j]? = some x) := by
  unfold putAt at h
  split at h
  · rename_i hlt
    rw [List.getElem?_set] at h
    by_cases e : k = j
    · subst e; simp [hlt] at h; exact .inl ⟨rfl, h.symm⟩
    · rw [if_neg e] at h; exact .inr ⟨fun e' => e e'.symm, h⟩
  · have hkl : k = l.length := by omega
    subst hkl
    rw [List.getElem?_append] at h
    split at h
    · rename_i hj; exact .inr ⟨by omega, h⟩
    · have : j = l.length := by
        have := (List.getElem?_eq_some_iff.1 h).1
        simp at this; omega
      subst this
      simp at h; exact .inl ⟨rfl, h.symm⟩

theorem getElem?_set_reg {st : St} {i j : Nat} {x : Option Reg} {r : Reg} (h : (st.set i x)[j]? = some (some r)) :
    (j = i ∧ x = some r ∧ i < st.length) ∨ (j ≠ i ∧ st[j]? = some (some r)) := by
  rw [List.getElem?_set] at h
  by_cases e : i = j
  · subst e
    rw [if_pos rfl] at h
    split at h
    · rename_i hlt; simp at h; exact .inl ⟨rfl, h, hlt⟩
    · cases h
  · rw [if_neg e] at h; exact .inr ⟨fun e' => e e'.symm, h⟩

/-- A write at place k of region i (in a row also right behind its last known cell). -/
theorem R.put {n b T w0 μ st w} (h : R n b T w0 μ st w) {i k : Nat} {r : Reg} {p : Place} {v v' : Value} (hi : st[i]? = some (some r)) (hp : μ[i]? = some p)
    (hk : (r.kind = .rw ∧ k < r.cells.length) ∨ (∃ e, r.kind = .row e ∧ k ≤ r.cells.length ∧ k < p.lim)) (hv : VR μ v v') :
    (∃ x, w.cell? ⟨p.block, p.off + k, none⟩ = some x) ∧ w.frozen? ⟨p.block, p.off + k, none⟩ = false ∧
      R n b T w0 μ (st.set i (some { r with cells := putAt r.cells k v })) (w.setCell ⟨p.block, p.off + k, none⟩ v') := by
  obtain ⟨hb, hc, hkd⟩ := h.good.ok i r p hi hp
  have hle : k ≤ r.cells.length := by rcases hk with ⟨_, hk⟩ | ⟨e, _, hk, _⟩ <;> omega
  have hne : r.kind ≠ .ro := by rcases hk with ⟨e, _⟩ | ⟨e, he, _⟩ <;> simp [*]
  have hcov : covers p r p.block (p.off + k) := by
    refine ⟨hne, rfl, ?_⟩
    rcases hk with ⟨e, hk⟩ | ⟨e, he, _⟩
    · exact .inr ⟨by omega, by omega⟩
    · simp only [he] at hkd
      exact .inl ⟨⟨e, he⟩, by omega⟩
  have hx : ∃ x, w.cell? ⟨p.block, p.off + k, none⟩ = some x := by
    rcases hk with ⟨e, hk⟩ | ⟨e, he, hk, hl⟩
    · obtain ⟨x, hx, _⟩ := hc k r.cells[k] (List.getElem?_eq_getElem hk)
      exact ⟨x, hx⟩
    · simp only [he] at hkd
      obtain ⟨h0, _, _, _, hlim | ⟨cs, t, hh, hs⟩⟩ := hkd
      · omega
      rw [cell_of hh]
      exact ⟨cs[p.off + k]'(by omega), Array.getElem?_eq_getElem (by omega)⟩
  have hf : w.frozen? ⟨p.block, p.off + k, none⟩ = false := by
    rcases hk with ⟨e, hk⟩ | ⟨e, he, hk, hl⟩
    · simp only [e] at hkd; exact hkd k hk
    · simp only [he] at hkd
      obtain ⟨h0, _, _, _, hlim | ⟨cs, t, hh, hs⟩⟩ := hkd
      · omega
      exact frozen_of hh
  refine ⟨hx, hf, ?_⟩
  obtain ⟨x, hx⟩ := hx
  obtain ⟨cs0, t0, fr0, hcs0, hcs0k⟩ := cell_block hx
  have cellNew := fun c j => setCell_cell (v := v') hx c j
  have frozNew := fun c j => setCell_frozen (v := v') hx c j
  have hin : i < st.length := (List.getElem?_eq_some_iff.1 hi).1
  -- the known length behind the write
  have hlen : r.cells.length ≤ (putAt r.cells k v).length ∧ (r.kind = .rw → (putAt r.cells k v).length = r.cells.length) := by
    unfold putAt
    split
    · simp
    · constructor
      · simp
      · intro e; rcases hk with ⟨_, hk⟩ | ⟨e', he, _⟩
        · omega
        · rw [e] at he; cases he
  have hplim : ∀ e, r.kind = .row e → p.off = 0 ∧ (putAt r.cells k v).length ≤ p.lim := by
    intro e hkind
    simp only [hkind] at hkd
    refine ⟨hkd.1, ?_⟩
    have h4 := hkd.2.2.2.1
    unfold putAt
    split
    · simpa using h4
    · rcases hk with ⟨e', _⟩ | ⟨e', he, hk, hl'⟩
      · rw [hkind] at e'; cases e'
      · simp; omega
  have covSame : ∀ b j, covers p { r with cells := putAt r.cells k v } b j → covers p r b j := by
    intro b j ⟨h1, h2, h3⟩
    refine ⟨h1, h2, ?_⟩
    rcases h3 with h3 | h3
    · exact .inl h3
    · cases hkind : r.kind with
      | ro => exact absurd hkind hne
      | row e => have := hplim e hkind; simp only at h3; exact .inl ⟨⟨e, rfl⟩, by omega⟩
      | rw => right; rw [hlen.2 hkind] at h3; exact h3
  have insSame : ∀ b j, inside p { r with cells := putAt r.cells k v } b j → inside p r b j := by
    intro b j ⟨h2, h3⟩
    refine ⟨h2, ?_⟩
    rcases h3 with h3 | h3
    · exact .inl h3
    · cases hkind : r.kind with
      | ro => exact absurd hkind hne
      | row e => have := hplim e hkind; simp only at h3; exact .inl ⟨⟨e, rfl⟩, by omega⟩
      | rw => right; rw [hlen.2 hkind] at h3; exact h3
  refine ⟨⟨by simp [h.good.len], ?_, ?_⟩, ?_, ?_, h.le, ?_, by simpa using h.prot.1, fun j r' e hj hr => ?_⟩
  rotate_right
  · rcases getElem?_set_reg hr with ⟨rfl, he, _⟩ | ⟨_, hr'⟩
    · cases he; exact h.prot.2 _ r e hj hi
    · exact h.prot.2 _ r' e hj hr'
  · -- what stands in each region
    intro j r' p' hj hpj
    rcases getElem?_set_reg hj with ⟨rfl, he, _⟩ | ⟨hji, hj'⟩
    · cases he
      rw [hp] at hpj; cases hpj
      refine ⟨fun b k hin => by rw [setCell_size]; exact hb b k (insSame b k hin), ?_, ?_⟩
      · intro m u hu
        rw [cellNew]
        rcases putAt_get hle m hu with ⟨rfl, rfl⟩ | ⟨hm, hu⟩
        · exact ⟨v', by simp, hv⟩
        · rw [if_neg (by omega)]
          exact hc m u hu
      · cases hkind : r.kind with
        | ro => exact absurd hkind hne
        | rw =>
          simp only [hkind] at hkd ⊢
          intro m hm
          rw [frozNew]
          exact hkd m (by rw [hlen.2 hkind] at hm; exact hm)
        | row e =>
          simp only [hkind] at hkd ⊢
          obtain ⟨h0, h1, h2, hl, hx⟩ := hkd
          refine ⟨h0, h1, h2, (hplim e hkind).2, ?_⟩
          rcases hx with hx | ⟨cs, t, hh, hs⟩
          · exact .inl hx
          · exact .inr ⟨cs.setIfInBounds (p.off + k) v', t, by rw [setCell_heap hh, if_pos rfl], by simp [hs]⟩
    · obtain ⟨hb', hc', hkd'⟩ := h.good.ok j r' p' hj' hpj
      have hns : ∀ m, m < r'.cells.length → ¬ (p'.block = p.block ∧ p'.off + m = p.off + k) := by
        intro m hm ⟨e1, e2⟩
        exact h.good.sep i j r r' p p' (fun e => hji e.symm) hi hj' hp hpj p.block (p.off + k) hcov ⟨e1, .inr ⟨by omega, by omega⟩⟩
      refine ⟨fun b k hin => by rw [setCell_size]; exact hb' b k hin, ?_, ?_⟩
      · intro m u hu
        have hm := (List.getElem?_eq_some_iff.1 hu).1
        rw [cellNew, if_neg (hns m hm)]
        exact hc' m u hu
      · cases hkind : r'.kind with
        | ro => trivial
        | rw =>
          simp only [hkind] at hkd' ⊢
          exact fun m hm => by rw [frozNew]; exact hkd' m hm
        | row e =>
          simp only [hkind] at hkd' ⊢
          obtain ⟨h0, h1, h2, hl, hx⟩ := hkd'
          refine ⟨h0, h1, h2, hl, ?_⟩
          rcases hx with hx | ⟨cs, t, hh, hs⟩
          · exact .inl hx
          have hbb : p'.block ≠ p.block := by
            intro e'
            refine h.good.sep i j r r' p p' (fun e => hji e.symm) hi hj' hp hpj p.block (p.off + k) hcov ⟨e', .inl ⟨⟨e, hkind⟩, ?_⟩⟩
            rw [e', hcs0] at hh
            cases hh
            rw [← hs]
            exact (Array.getElem?_eq_some_iff.1 hcs0k).1
          exact .inr ⟨cs, t, by rw [setCell_heap hcs0, if_neg hbb]; exact hh, hs⟩
  · -- apart
    intro a b ra rb pa pb hab ha hb2 hpa hpb c j hcv hins
    rcases getElem?_set_reg ha with ⟨rfl, he, _⟩ | ⟨hai, ha'⟩
    · cases he
      rw [hp] at hpa; cases hpa
      rcases getElem?_set_reg hb2 with ⟨rfl, _, _⟩ | ⟨hbi, hb'⟩
      · exact hab rfl
      · exact h.good.sep a b r rb p pb hab hi hb' hp hpb c j (covSame c j hcv) hins
    · rcases getElem?_set_reg hb2 with ⟨rfl, he, _⟩ | ⟨hbi, hb'⟩
      · cases he
        rw [hp] at hpb; cases hpb
        exact h.good.sep a b ra r pa p hab ha' hi hpa hp c j hcv (insSame c j hins)
      · exact h.good.sep a b ra rb pa pb hab ha' hb' hpa hpb c j hcv hins
  · -- whose it is
    intro b j ⟨a, ra, pa, ha, hpa, hcv⟩
    rcases getElem?_set_reg ha with ⟨rfl, he, _⟩ | ⟨hai, ha'⟩
    · cases he
      rw [hp] at hpa; cases hpa
      exact h.own b j ⟨a, r, p, hi, hp, covSame b j hcv⟩
    · exact h.own b j ⟨a, ra, pa, ha', hpa, hcv⟩
  · -- the rest stays
    have hT := h.own p.block (p.off + k) ⟨i, r, p, hi, hp, hcov⟩
    refine h.frame.trans (n' := n) (T' := T) ?_ (Nat.le_refl _) (fun _ _ _ h => h)
    refine ⟨rfl, rfl, rfl, by rw [setCell_size]; exact Nat.le_refl _, ?_, ?_⟩
    · intro b cs t fr hb2 hcs
      rw [setCell_heap hcs0]
      by_cases e : b = p.block
      · subst e
        rw [hcs0] at hcs; cases hcs
        refine ⟨_, by rw [if_pos rfl], by simp, fun m hm => ?_⟩
        rw [Array.getElem?_setIfInBounds]
        rw [if_neg]
        intro e
        subst e
        rcases hT with h1 | h1
        · omega
        · exact hm h1
      · exact ⟨cs, by rw [if_neg e]; exact hcs, rfl, fun _ _ => rfl⟩
    · intro b o hb2 ho hne'
      rw [setCell_heap hcs0]
      by_cases e : b = p.block
      · subst e; rw [hcs0] at ho; cases ho; exact absurd rfl (hne' _ _ _)
      · rw [if_neg e]; exact ho
  · intro j r' p' hj hpj hbj
    rcases getElem?_set_reg hj with ⟨rfl, he, _⟩ | ⟨hji, hj'⟩
    · cases he
      rw [hp] at hpj; cases hpj
      exact h.news _ r p hi hp hbj
    · exact h.news j r' p' hj' hpj hbj

/-- A region is given up. -/
theorem R.kill {n b T w0 μ st w} (h : R n b T w0 μ st w) (i : Nat) : R n b T w0 μ (st.set i none) w := by
  have key : ∀ {j : Nat} {r : Reg}, (st.set i none)[j]? = some (some r) → st[j]? = some (some r) := by
    intro j r hj
    rcases getElem?_set_reg hj with ⟨_, he, _⟩ | ⟨_, hj'⟩
    · cases he
    · exact hj'
  refine ⟨⟨by simp [h.good.len], fun j r p hj hp => h.good.ok j r p (key hj) hp, ?_⟩, ?_, h.frame, h.le, fun j r p hj hp hb => h.news j r p (key hj) hp hb, by simpa using h.prot.1, fun j r e hj hr => h.prot.2 j r e hj (key hr)⟩
  · intro a b ra rb pa pb hab ha hb hpa hpb
    exact h.good.sep a b ra rb pa pb hab (key ha) (key hb) hpa hpb
  · intro b k ⟨a, ra, pa, ha, hpa, hc⟩
    exact h.own b k ⟨a, ra, pa, key ha, hpa, hc⟩

theorem getElem?_snoc_reg {st : St} {j : Nat} {x r : Reg} (h : (st ++ [some x])[j]? = some (some r)) :
    (j = st.length ∧ x = r) ∨ (j < st.length ∧ st[j]? = some (some r)) := by
  rw [List.getElem?_append] at h
  split at h
  · rename_i hj; exact .inr ⟨hj, h⟩
  · have hj : j = st.length := by
      have := (List.getElem?_eq_some_iff.1 h).1
      simp at this; omega
    subst hj
    simp at h; exact .inl ⟨rfl, h⟩
theorem getElem?_snoc_place {μ : List Place} {j : Nat} {x p : Place} (h : (μ ++ [x])[j]? = some p) :
    (j = μ.length ∧ x = p) ∨ (j < μ.length ∧ μ[j]? = some p) := by
  rw [List.getElem?_append] at h
  split at h
  · rename_i hj; exact .inr ⟨hj, h⟩
  · have hj : j = μ.length := by
      have := (List.getElem?_eq_some_iff.1 h).1
      simp at this; omega
    subst hj
    simp at h; exact .inl ⟨rfl, h⟩

/-- A region gets a new number (the old one is given up). -/
theorem R.move {n b T w0 μ st w} (h : R n b T w0 μ st w) {i : Nat} {r : Reg} {p : Place} (hi : st[i]? = some (some r)) (hp : μ[i]? = some p) {e : Nat} (hrow : r.kind = .row e) :
    R n b T w0 (μ ++ [p]) (st.set i none ++ [some r]) w := by
  have hk := h.kill i
  have key : ∀ {j : Nat} {r q : Reg}, (st.set i none ++ [some r])[j]? = some (some q) → (j = st.length ∧ r = q) ∨ (j < st.length ∧ j ≠ i ∧ st[j]? = some (some q)) := by
    intro j r q hj
    rcases getElem?_snoc_reg hj with ⟨e, e'⟩ | ⟨hl, hj'⟩
    · exact .inl ⟨by simpa using e, e'⟩
    · rcases getElem?_set_reg hj' with ⟨_, he, _⟩ | ⟨hne, hj''⟩
      · cases he
      · exact .inr ⟨by simpa using hl, hne, hj''⟩
  have hlen := h.good.len
  have old : ∀ {j : Nat} {q}, (μ ++ [p])[j]? = some q → j < st.length → μ[j]? = some q := by
    intro j q hq hj
    rw [List.getElem?_append_left (by omega)] at hq; exact hq
  have new : ∀ {q}, (μ ++ [p])[st.length]? = some q → q = p := by
    intro q hq
    rw [← hlen] at hq; simp at hq; exact hq.symm
  refine ⟨⟨by simp [hlen], ?_, ?_⟩, ?_, h.frame, h.le, ?_, by have := h.prot.1; simp; omega, fun j q e2 hj hq => ?_⟩
  rotate_right
  · have := h.prot.1
    rcases key hq with ⟨rfl, _⟩ | ⟨_, _, hj'⟩
    · omega
    · exact h.prot.2 j q e2 hj hj'
  · intro j q pq hj hpq
    have hm : ∀ {r p}, RegOk μ w p r → RegOk (μ ++ [pq]) w p r := fun ⟨a, b, c⟩ =>
      ⟨a, fun k v hv => let ⟨v', h1, h2⟩ := b k v hv; ⟨v', h1, h2.mono (Ext.append _ _)⟩, c⟩
    have hm' : ∀ {r p'}, RegOk μ w p' r → RegOk (μ ++ [p]) w p' r := fun ⟨a, b, c⟩ =>
      ⟨a, fun k v hv => let ⟨v', h1, h2⟩ := b k v hv; ⟨v', h1, h2.mono (Ext.append _ _)⟩, c⟩
    rcases key hj with ⟨rfl, rfl⟩ | ⟨hl, _, hj'⟩
    · cases new hpq; exact hm' (h.good.ok i _ _ hi hp)
    · exact hm' (h.good.ok j q pq hj' (old hpq hl))
  · intro a b ra rb pa pb hab ha hb hpa hpb
    rcases key ha with ⟨rfl, rfl⟩ | ⟨hla, hnea, ha'⟩
    · rcases key hb with ⟨rfl, _⟩ | ⟨hlb, hneb, hb'⟩
      · exact absurd rfl hab
      · cases new hpa
        exact h.good.sep i b _ rb _ pb (fun e => hneb e.symm) hi hb' hp (old hpb hlb)
    · rcases key hb with ⟨rfl, rfl⟩ | ⟨hlb, hneb, hb'⟩
      · cases new hpb
        exact h.good.sep a i ra _ pa _ hnea ha' hi (old hpa hla) hp
      · exact h.good.sep a b ra rb pa pb hab ha' hb' (old hpa hla) (old hpb hlb)
  · intro b k ⟨a, ra, pa, ha, hpa, hc⟩
    rcases key ha with ⟨rfl, rfl⟩ | ⟨hla, hnea, ha'⟩
    · cases new hpa; exact h.own b k ⟨i, _, _, hi, hp, hc⟩
    · exact h.own b k ⟨a, ra, pa, ha', old hpa hla, hc⟩
  · intro j q pq hj hpq hb
    rcases key hj with ⟨rfl, rfl⟩ | ⟨hl, _, hj'⟩
    · cases new hpq; exact h.news i _ _ hi hp (.inr ⟨e, hrow⟩)
    · exact h.news j q pq hj' (old hpq hl) hb

def allocW (w : World) (o : Obj) : World := { w with heap := w.heap.push o }

/-- A new block, and a region over its first cells. -/
theorem R.alloc {n b T w0 μ st w} (h : R n b T w0 μ st w) {t : TypeId} {xs : List Value} {ys : Array Value} {kind : RK} (hk : kind ≠ .ro) {esz : Nat}
    (he : (kind = .rw ∧ esz = 0) ∨ (kind = .row esz ∧ esz ≠ 0)) (hl : xs.length ≤ ys.size) (hv : ∀ (i : Nat) x y, xs[i]? = some x → ys[i]? = some y → VR μ x y) (fr : Nat × Nat)
    (hfr : (∀ k, k < xs.length → ¬ (fr.1 ≤ k ∧ k < fr.2)) ∧ (esz ≠ 0 → fr = (0, 0))) :
    R n b T w0 (μ ++ [⟨w.heap.size, 0, ys.size, esz⟩]) (st ++ [some ⟨xs, kind⟩]) (allocW w (.cells ys t fr)) := by
  have hlen := h.good.len
  have hsz : (allocW w (.cells ys t fr)).heap.size = w.heap.size + 1 := by unfold allocW; exact Array.size_push _
  have hnew : (allocW w (.cells ys t fr)).heap[w.heap.size]? = some (.cells ys t fr) := by unfold allocW; exact Array.getElem?_push_size
  have hold : ∀ b, b < w.heap.size → (allocW w (.cells ys t fr)).heap[b]? = w.heap[b]? := by
    intro b hb; simp only [allocW]; rw [Array.getElem?_push, if_neg (by omega)]
  have hcell : ∀ b k, b < w.heap.size → (allocW w (.cells ys t fr)).cell? ⟨b, k, none⟩ = w.cell? ⟨b, k, none⟩ := by
    intro b k hb; simp only [World.cell?, hold b hb]
  have hfroz : ∀ b k, b < w.heap.size → (allocW w (.cells ys t fr)).frozen? ⟨b, k, none⟩ = w.frozen? ⟨b, k, none⟩ := by
    intro b k hb; simp only [World.frozen?, hold b hb]
  refine ⟨⟨by simp [hlen], ?_, ?_⟩, ?_, ?_, h.le, ?_, by have := h.prot.1; simp; omega, fun j q e2 hj hq => ?_⟩
  rotate_right
  · have := h.prot.1
    rcases getElem?_snoc_reg hq with ⟨rfl, _⟩ | ⟨_, hj'⟩
    · omega
    · exact h.prot.2 j q e2 hj hj'
  · intro j r p hj hp
    rcases getElem?_snoc_reg hj with ⟨rfl, rfl⟩ | ⟨hl', hj'⟩
    · have : p = ⟨w.heap.size, 0, ys.size, esz⟩ := by rw [← hlen] at hp; simp at hp; exact hp.symm
      subst this
      refine ⟨fun _ _ _ => by simp only [hsz]; omega, ?_, ?_⟩
      · intro k v hvk
        have hkl := (List.getElem?_eq_some_iff.1 hvk).1
        rw [cell_of hnew]
        simp only at hvk hkl
        have hky : k < ys.size := by omega
        refine ⟨ys[k], by simp [hky], (hv k v _ hvk (Array.getElem?_eq_getElem hky)).mono (Ext.append _ _)⟩
      · rcases he with ⟨rfl, rfl⟩ | ⟨rfl, he0⟩
        · intro k hk'
          simp only [World.frozen?, hnew]
          have := hfr.1 k hk'
          simp only [Nat.zero_add]
          simpa using this
        · obtain rfl := hfr.2 he0
          exact ⟨rfl, rfl, he0, hl, .inr ⟨ys, t, hnew, rfl⟩⟩
    · have hp' : μ[j]? = some p := by rw [List.getElem?_append_left (by omega)] at hp; exact hp
      obtain ⟨hb, hc, hkd⟩ := h.good.ok j r p hj' hp'
      refine ⟨fun c k hin => by have := hb c k hin; omega, fun k v hvk => ?_, ?_⟩
      · obtain ⟨v', h1, h2⟩ := hc k v hvk
        have hk' := (List.getElem?_eq_some_iff.1 hvk).1
        exact ⟨v', by rw [hcell _ _ (hb _ (p.off + k) ⟨rfl, .inr ⟨by omega, by omega⟩⟩)]; exact h1, h2.mono (Ext.append _ _)⟩
      · cases hkind : r.kind with
        | ro => trivial
        | rw => simp only [hkind] at hkd ⊢; exact fun k hk' => by rw [hfroz _ _ (hb _ (p.off + k) ⟨rfl, .inr ⟨by omega, by omega⟩⟩)]; exact hkd k hk'
        | row e =>
          simp only [hkind] at hkd ⊢
          obtain ⟨h0, h1, h2, hl2, hx⟩ := hkd
          refine ⟨h0, h1, h2, hl2, ?_⟩
          rcases hx with hx | ⟨cs, t', hh, hs⟩
          · exact .inl hx
          · have hlt : p.block < w.heap.size := by
              apply Decidable.byContradiction
              intro hge
              rw [Array.getElem?_eq_none (by omega)] at hh; cases hh
            exact .inr ⟨cs, t', by rw [hold _ hlt]; exact hh, hs⟩
  · intro a b ra rb pa pb hab ha hb hpa hpb c k hcv hin
    have blk : ∀ {j : Nat} {r p}, (st ++ [some (⟨xs, kind⟩ : Reg)])[j]? = some (some r) → (μ ++ [(⟨w.heap.size, 0, ys.size, esz⟩ : Place)])[j]? = some p →
        (j = st.length ∧ p.block = w.heap.size) ∨ (j < st.length ∧ st[j]? = some (some r) ∧ μ[j]? = some p ∧ (∀ b k, inside p r b k → p.block < w.heap.size)) := by
      intro j r p hj hp
      rcases getElem?_snoc_reg hj with ⟨rfl, rfl⟩ | ⟨hl', hj'⟩
      · left
        rw [← hlen] at hp; simp at hp; subst hp; exact ⟨rfl, rfl⟩
      · right
        have hp' : μ[j]? = some p := by rw [List.getElem?_append_left (by omega)] at hp; exact hp
        exact ⟨hl', hj', hp', (h.good.ok j r p hj' hp').1⟩
    have hcb := hcv.2.1
    have hib := hin.1
    rcases blk ha hpa with ⟨e1, e2⟩ | ⟨l1, a1, a2, a3⟩
    · rcases blk hb hpb with ⟨e3, e4⟩ | ⟨l1, a1, a2, a3⟩
      · exact hab (by omega)
      · have := a3 c k hin; omega
    · rcases blk hb hpb with ⟨e3, e4⟩ | ⟨l2, b1, b2, b3⟩
      · have := a3 c k hcv.inside; omega
      · exact h.good.sep a b ra rb pa pb hab a1 b1 a2 b2 c k hcv hin
  · intro b k ⟨a, ra, pa, ha, hpa, hc⟩
    have hfs := h.frame.size
    have := h.le
    rcases getElem?_snoc_reg ha with ⟨rfl, rfl⟩ | ⟨hl', ha'⟩
    · rw [← hlen] at hpa; simp at hpa; subst hpa
      left; have := hc.2.1; simp at this; omega
    · rw [List.getElem?_append_left (by omega)] at hpa
      exact h.own b k ⟨a, ra, pa, ha', hpa, hc⟩
  · refine h.frame.trans (n' := n) (T' := T) ?_ (Nat.le_refl _) (fun _ _ _ h => h)
    have hfs := h.frame.size
    have := h.le
    refine ⟨rfl, rfl, rfl, by omega, ?_, ?_⟩
    · intro b cs t fr hb hcs
      exact ⟨cs, by rw [hold b (by omega)]; exact hcs, rfl, fun _ _ => rfl⟩
    · intro b o hb ho _
      rw [hold b (by omega)]; exact ho
  · intro j r p hj hp hb
    have hfs := h.frame.size
    have := h.le
    rcases getElem?_snoc_reg hj with ⟨rfl, rfl⟩ | ⟨hl', hj'⟩
    · rw [← hlen] at hp; simp at hp; subst hp; simp only; omega
    · rw [List.getElem?_append_left (by omega)] at hp
      exact h.news j r p hj' hp hb

/-- What nothing of memory hangs on (a draw of the tape). -/
theorem R.drew {n b T w0 μ st w} (h : R n b T w0 μ st w) {w' : World} (h1 : w'.heap = w.heap) (h2 : w'.os = w.os) (h3 : w'.tape = w.tape) (h4 : w'.output = w.output) : R n b T w0 μ st w' := by
  have hc : ∀ a, w'.cell? a = w.cell? a := fun a => by simp only [World.cell?, h1]
  have hf : ∀ a, w'.frozen? a = w.frozen? a := fun a => by simp only [World.frozen?, h1]
  refine ⟨⟨h.good.len, ?_, h.good.sep⟩, h.own, ⟨h2.trans h.frame.os, h3.trans h.frame.tape, h4.trans h.frame.output, by rw [h1]; exact h.frame.size, by rw [h1]; exact h.frame.cells, by rw [h1]; exact h.frame.other⟩, h.le, h.news, h.prot⟩
  intro i r p hi hp
  obtain ⟨a, b, c⟩ := h.good.ok i r p hi hp
  refine ⟨fun x k hin => by rw [h1]; exact a x k hin, by simp only [hc]; exact b, ?_⟩
  cases hkind : r.kind with
  | ro => trivial
  | rw => simp only [hkind] at c ⊢; simp only [hf]; exact c
  | row e => simp only [hkind] at c ⊢; rw [h1]; exact c

/-- A region without cells may be thought of. -/
theorem R.thin {n b T w0 μ st w} (h : R n b T w0 μ st w) {kind : RK} {esz : Nat} (he : kind = .rw ∨ (kind = .row esz ∧ esz ≠ 0)) : R n b T w0 (μ ++ [⟨w.heap.size, 0, 0, esz⟩]) (st ++ [some ⟨[], kind⟩]) w := by
  have hlen := h.good.len
  have hno : ∀ {b k : Nat}, ¬ inside ⟨w.heap.size, 0, 0, esz⟩ ⟨[], kind⟩ b k := by
    rintro b k ⟨_, ⟨_, h1⟩ | ⟨h1, h2⟩⟩
    · simp at h1
    · simp at h2
  have hold : ∀ {j : Nat} {p q : Place}, (μ ++ [q])[j]? = some p → j < st.length → μ[j]? = some p := by
    intro j p q hp hj
    rw [List.getElem?_append_left (by omega)] at hp; exact hp
  have hnew : ∀ {p q : Place}, (μ ++ [q])[st.length]? = some p → p = q := by
    intro p q hp
    rw [← hlen] at hp; simp at hp; exact hp.symm
  have hs := h.frame.size
  have hle := h.le
  refine ⟨⟨by simp [hlen], ?_, ?_⟩, ?_, h.frame, h.le, ?_, by have := h.prot.1; simp; omega, fun j q e2 hj hq => ?_⟩
  · intro j r p hj hp
    rcases getElem?_snoc_reg hj with ⟨rfl, rfl⟩ | ⟨hl', hj'⟩
    · cases hnew hp
      refine ⟨fun b k hin => absurd hin hno, fun k v hv => by simp at hv, ?_⟩
      rcases he with rfl | ⟨rfl, he⟩
      · intro k hk; simp at hk
      · exact ⟨rfl, rfl, he, Nat.le_refl _, .inl rfl⟩
    · obtain ⟨a, b, c⟩ := h.good.ok j r p hj' (hold hp hl')
      exact ⟨a, fun k v hv => let ⟨v', h1, h2⟩ := b k v hv; ⟨v', h1, h2.mono (Ext.append _ _)⟩, c⟩
  · intro i j r r' p p' hij hi hj hp hp' b k hcv hin
    rcases getElem?_snoc_reg hi with ⟨rfl, rfl⟩ | ⟨hl1, hi'⟩
    · cases hnew hp; exact hno hcv.inside
    · rcases getElem?_snoc_reg hj with ⟨rfl, rfl⟩ | ⟨hl2, hj'⟩
      · cases hnew hp'; exact hno hin
      · exact h.good.sep i j r r' p p' hij hi' hj' (hold hp hl1) (hold hp' hl2) b k hcv hin
  · rintro b k ⟨i, r, p, hi, hp, hc⟩
    rcases getElem?_snoc_reg hi with ⟨rfl, rfl⟩ | ⟨hl1, hi'⟩
    · cases hnew hp; exact absurd hc.inside hno
    · exact h.own b k ⟨i, r, p, hi', hold hp hl1, hc⟩
  · intro i r p hi hp hb
    rcases getElem?_snoc_reg hi with ⟨rfl, rfl⟩ | ⟨hl1, hi'⟩
    · cases hnew hp; simp only; omega
    · exact h.news i r p hi' (hold hp hl1) hb
  · have := h.prot.1
    rcases getElem?_snoc_reg hq with ⟨rfl, _⟩ | ⟨_, hj'⟩
    · omega
    · exact h.prot.2 j q e2 hj hj'

end Go.Proofs.Ytggkdjhgknghcaa.Am

namespace Go.Proofs.Ytggkdjhgknghcaa.Am

structure Tab where
  und : TypeId → Option TypeDesc
  sz : TypeId → Option Nat
  zero : TypeId → Option Value
  byt : TypeId → Option Nat
  eqg : TypeId → Bool

structure TabOk (P : Program) (T : Tab) : Prop where
  und : ∀ t d, T.und t = some d → P.underlying t = some d
  sz : ∀ t n, T.sz t = some n → ∃ i, P.info? t = some i ∧ i.size = n
  zero : ∀ t v, T.zero t = some v → ∃ i, P.info? t = some i ∧ i.zero = some v
  byt : ∀ t n, T.byt t = some n → ∃ i, P.info? t = some i ∧ i.bytes = n
  eqg : ∀ t, T.eqg t = true → P.eqGuardType P.depth t = false

/-- The program's own tables. -/
def tabOf (P : Program) : Tab where
  und := P.underlying
  sz t := (P.info? t).map (·.size)
  zero t := (P.info? t).bind (·.zero)
  byt t := (P.info? t).map (·.bytes)
  eqg t := !P.eqGuardType P.depth t
theorem tabOf_ok (P : Program) : TabOk P (tabOf P) where
  und _ _ h := h
  sz t n h := by simpa [tabOf] using h
  zero t v h := by simpa [tabOf, Option.bind_eq_some_iff] using h
  byt t n h := by simpa [tabOf] using h
  eqg t h := by simpa [tabOf] using h

def aggD : TypeDesc → Bool | .struct _ | .array _ _ => true | _ => false

section
variable {P : Program} {T : Tab} (hT : TabOk P T)
include hT
theorem run_und {t : TypeId} {d : TypeDesc} (h : T.und t = some d) (w : World) : (underlying t).run P w = .ok d w := by
  simp [underlying, hT.und t d h]
theorem run_sz {t : TypeId} {n : Nat} (h : T.sz t = some n) (w : World) : (sizeOf t).run P w = .ok n w := by
  obtain ⟨i, h1, h2⟩ := hT.sz t n h
  simp [sizeOf, typeInfo, h1, h2]
theorem run_zero {t : TypeId} {v : Value} (h : T.zero t = some v) (w : World) : (zeroValue t).run P w = .ok v w := by
  obtain ⟨i, h1, h2⟩ := hT.zero t v h
  simp [zeroValue, typeInfo, h1, h2]
theorem run_isAgg {t : TypeId} {d : TypeDesc} (h : T.und t = some d) (w : World) :
    (isAgg t).run P w = .ok (aggD d) w := by
  unfold isAgg
  rw [Sem.run_bind, run_und hT h]
  cases d <;> rfl
end


/-- Where a slice begins. -/
def sbase : Option Addr → Option (Nat × Nat)
  | some a => match a.spot with
    | none => some (a.block, a.off)
    | some 1 => if a.off = 0 then some (a.block, 0) else none
    | some _ => none
  | none => none

theorem VR.sbase {μ a len c v i off} (h : VR μ (.slice a len c) v) (hb : sbase a = some (i, off)) :
    (∃ p c', μ[i]? = some p ∧ c ≤ c' ∧ v = .slice (some ⟨p.block, p.off + off, none⟩) len c') ∨ (len = 0 ∧ c = 0 ∧ ∃ a' c', v = .slice a' 0 c') := by
  cases h with
  | nils => simp [Am.sbase] at hb
  | slice i' off' _ _ c' p hp hc =>
    simp [Am.sbase] at hb; obtain ⟨rfl, rfl⟩ := hb
    exact .inl ⟨p, c', hp, hc, rfl⟩
  | row i' _ _ c' p hp hc h0 _ _ =>
    simp [Am.sbase] at hb; obtain ⟨rfl, rfl⟩ := hb
    exact .inl ⟨p, c', hp, hc, by simp [h0]⟩
  | row0 i => exact .inr ⟨rfl, rfl, none, 0, rfl⟩
  | slice0 _ _ a' c' => exact .inr ⟨rfl, rfl, a', c', rfl⟩
  | empty _ _ => simp [Am.sbase] at hb

def bound? (v : Option Value) (dflt most : Nat) : Option Nat :=
  match v with
  | none => if dflt ≤ most then some dflt else none
  | some (.int _ i) => if 0 ≤ i ∧ i ≤ most then some i.toNat else none
  | _ => none

/-- A slice out of what begins at (i, off), of 'len' elements, 'cap' of them at least; an element takes 'size' cells. -/
def cut (i off len cap size : Nat) (lo hi mx : Option Value) : Option Value :=
  if mx.isSome && hi.isNone then none else
  match bound? mx cap cap with
  | none => none
  | some m => match bound? hi len m with
    | none => none
    | some h => match bound? lo 0 h with
      | none => none
      | some l => some (.slice (some ⟨i, off + l * size, none⟩) (h - l) (m - l))

def aslice (T : Tab) (t : TypeId) (x : Value) (lo hi mx : Option Value) : Option Value :=
  match T.und t, x with
  | some (.array n e), .pointer (some ⟨i, off, none⟩) => match T.sz e with
    | some size => cut i off n n size lo hi mx
    | none => none
  | some (.slice e), .slice a len c => match T.sz e with
    | some size => match sbase a with
      | some (i, off) => cut i off len c size lo hi mx
      | none => if mx.isSome && hi.isNone then none else if a = none ∧ len = 0 ∧ c = 0 ∧ bound? mx 0 0 = some 0 ∧ bound? hi 0 0 = some 0 ∧ bound? lo 0 0 = some 0 then some (.slice none 0 0)
        else if len = 0 ∧ bound? mx 0 0 = some 0 ∧ bound? hi 0 0 = some 0 ∧ bound? lo 0 0 = some 0 then some (.slice (some ⟨0, 0, some 0⟩) 0 0) else none
    | none => none
  | _, _ => none

/-- The k-th of 'len' elements, that take 'size' cells each, from (i, off) on. -/
def idxAt (i off size len : Nat) (k : Int) : Option Value := if 0 ≤ k ∧ k < len then some (.pointer (some ⟨i, off + k.toNat * size, none⟩)) else none
def aindexAddr (T : Tab) (t : TypeId) (x ix : Value) : Option Value :=
  match ix with
  | .int _ k => match T.und t, x with
    | some (.array len e), .pointer (some ⟨i, off, none⟩) => match T.sz e with
      | some size => idxAt i off size len k
      | none => none
    | some (.slice e), .slice a len _ => match T.sz e, sbase a with
      | some size, some (i, off) => idxAt i off size len k
      | _, _ => none
    | _, _ => none
  | _ => none

def apart (T : Tab) (t : TypeId) (cs : List Value) (off : Nat) : Option Value :=
  match T.und t with
  | some d => if aggD d then match T.sz t with
      | some n => some (.agg ((cs.drop off).take n).toArray)
      | none => none
    else cs[off]?
  | none => none

def aindex (T : Tab) (t : TypeId) (x ix : Value) : Option Value :=
  match ix with
  | .int _ k => match T.und t, x with
    | some (.array len e), .agg cs => match T.sz e with
      | some size => if 0 ≤ k ∧ k < len then apart T e cs.toList (k.toNat * size) else none
      | none => none
    | some .string, .string s => if 0 ≤ k then match s[k.toNat]? with
      | some b => some (.int .u8 b.toNat)
      | none => none else none
    | _, _ => none
  | _ => none

def afieldAddr (T : Tab) (s : TypeId) (x : Value) (f : Nat) : Option Value :=
  match T.und s, x with
  | some (.struct fs), .pointer (some ⟨i, off, none⟩) => match fs.toList[f]? with
    | some fd => match T.sz fd.type with
      | some n => if n = 0 then none else some (.pointer (some ⟨i, off + fd.offset, none⟩))
      | none => none
    | none => none
  | _, _ => none

def afield (T : Tab) (s : TypeId) (x : Value) (f : Nat) : Option Value :=
  match T.und s, x with
  | some (.struct fs), .agg cs => match fs.toList[f]? with
    | some fd => apart T fd.type cs.toList fd.offset
    | none => none
  | _, _ => none

def eqInts : List Value → List Value → Option Bool
  | [], [] => some true
  | .int k a :: r, .int k' b :: r' => if k = k' then (match eqInts r r' with | some t => some (a == b && t) | none => none) else none
  | _, _ => none

def aeq (T : Tab) (t : TypeId) (x y : Value) : Option Bool :=
  match x, y with
  | .bool a, .bool b => match T.und t with
    | some .bool => some (a == b)
    | _ => none
  | .pointer none, .pointer b => match T.und t with
    | some (.pointer _) => some b.isNone
    | _ => none
  | .pointer (some _), .pointer none => match T.und t with
    | some (.pointer _) => some false
    | _ => none
  | .agg xs, .agg ys => match T.und t with
    | some (.array n e) => match T.und e, T.sz e with
      | some (.int _), some 1 => if T.eqg t = true ∧ xs.size = n ∧ ys.size = n then eqInts xs.toList ys.toList else none
      | _, _ => none
    | _ => none
  | _, _ => none

def aint (op : BinOp) (k : IntKind) (a b : Int) : Option Value :=
  match op with
  | .add => some (.int k (k.wrap (a + b)))
  | .sub => some (.int k (k.wrap (a - b)))
  | .mul => some (.int k (k.wrap (a * b)))
  | .quo => if b = 0 then none else some (.int k (k.wrap (a.tdiv b)))
  | .rem => if b = 0 then none else some (.int k (a.tmod b))
  | .and => some (.int k (k.wrap (BitVec.ofInt k.bits a &&& BitVec.ofInt k.bits b).toNat))
  | .or => some (.int k (k.wrap (BitVec.ofInt k.bits a ||| BitVec.ofInt k.bits b).toNat))
  | .xor => some (.int k (k.wrap (BitVec.ofInt k.bits a ^^^ BitVec.ofInt k.bits b).toNat))
  | .andNot => some (.int k (k.wrap (BitVec.ofInt k.bits a &&& ~~~(BitVec.ofInt k.bits b)).toNat))
  | .eql => some (.bool (a == b))
  | .neq => some (.bool (a != b))
  | .lss => some (.bool (decide (a < b)))
  | .leq => some (.bool (decide (a ≤ b)))
  | .gtr => some (.bool (decide (a > b)))
  | .geq => some (.bool (decide (a ≥ b)))
  | _ => none

def abin (T : Tab) (op : BinOp) (t : TypeId) (x y : Value) : Option Value :=
  match x, y with
  | .int k a, .int k' b => match op with
    | .shl => if b < 0 then none else some (.int k (k.wrap (a * 2 ^ (min b.toNat k.bits))))
    | .shr => if b < 0 then none else some (.int k (a.fdiv (2 ^ (min b.toNat k.bits))))
    | op => if k = k' then aint op k a b else none
  | .string a, .string b => match op with
    | .add => if a.size + b.size ≤ 4611686018427387904 then some (.string (a ++ b)) else none
    | .eql => some (.bool (a.toList == b.toList))
    | .neq => some (.bool !(a.toList == b.toList))
    | _ => none
  | x, y => match op with
    | .eql => match aeq T t x y with | some b => some (.bool b) | none => none
    | .neq => match aeq T t x y with | some b => some (.bool !b) | none => none
    | _ => none

def aun (op : UnOp) (x : Value) : Option Value :=
  match op, x with
  | .neg, .int k n => some (.int k (k.wrap (0 - n)))
  | .xor, .int k n => some (.int k (k.wrap (BitVec.ofInt k.bits (if k.signed then -1 else k.max) ^^^ BitVec.ofInt k.bits n).toNat))
  | .not, .bool b => some (.bool !b)
  | _, _ => none

def aconv (T : Tab) (src dst : TypeId) (x : Value) : Option Value :=
  match T.und src, T.und dst, x with
  | some _, some (.int k), .int _ n => some (.int k (k.wrap n))
  | some _, some .string, .int _ n => some (.string (Utf8.encode n))
  | _, _, _ => none

def alen (T : Tab) (t : TypeId) (x : Value) : Option Value :=
  match T.und t, x with
  | some .string, .string s => some (.int .i64 s.size)
  | some (.array n _), _ => some (.int .i64 n)
  | some (.slice _), .slice _ n _ => some (.int .i64 n)
  | _, _ => none

def aminmax (isMax : Bool) : List Value → Option Value
  | [.int k x, .int k' y] => if k = k' then some (.int k (if isMax then (if x < y then y else x) else (if y < x then y else x))) else none
  | _ => none

def mapO {α β : Type} (f : α → Option β) : List α → Option (List β)
  | [] => some []
  | a :: r => match f a with
    | some b => match mapO f r with
      | some l => some (b :: l)
      | none => none
    | none => none

def optO (ρ : Operand → Option Value) : Option Operand → Option (Option Value)
  | none => some none
  | some x => match ρ x with | some v => some (some v) | none => none

def partsO (ρ : Operand → Option Value) (ps : List (Nat × Operand)) : Option (List (Nat × Value)) :=
  mapO (fun p => match ρ p.2 with | some v => some (p.1, v) | none => none) ps

def abuild (T : Tab) (t : TypeId) (ps : List (Nat × Value)) : Option Value :=
  match T.zero t with
  | some z => if plain z then match T.und t with
    | some (.array _ e) => match T.sz e with
      | some size => match Instr.fill (fun i => some (i * size, size)) z.cells ps with
        | some cs => some (.agg cs)
        | none => none
      | none => none
    | some (.struct fs) => match mapO (fun f : Field => match T.sz f.type with | some n => some (f.offset, n) | none => none) fs.toList with
      | some places => match Instr.fill (fun i => places[i]?) z.cells ps with
        | some cs => some (.agg cs)
        | none => none
      | none => none
    | _ => none else none
  | none => none

/-- What an operation gives where it hangs on its operands alone. -/
def apure (T : Tab) (ρ : Operand → Option Value) : Op → Option Value
  | .move x => ρ x
  | .assign x => ρ x
  | .pick c a b => match ρ c with
    | some (.bool true) => ρ a
    | some (.bool false) => ρ b
    | _ => none
  | .build t ps => match partsO ρ ps.toList with
    | some vs => abuild T t vs
    | none => none
  | .nilCheck x => match ρ x with
    | some (.pointer (some a)) => some (.pointer (some a))
    | some (.func (.func f) xs cs) => some (.func (.func f) xs cs)
    | _ => none
  | .binOp op t x y _ => match ρ x, ρ y with
    | some a, some b => abin T op t a b
    | _, _ => none
  | .unOp op _ x => match ρ x with
    | some a => aun op a
    | none => none
  | .convert src dst x => match ρ x with
    | some a => aconv T src dst a
    | none => none
  | .makeFunc fn first captured => match mapO ρ first.toList, mapO ρ captured.toList with
    | some xs, some cs => some (.func fn xs.toArray cs.toArray)
    | _, _ => none
  | .slice t x lo hi mx => match ρ x, optO ρ lo, optO ρ hi, optO ρ mx with
    | some x, some lo, some hi, some mx => aslice T t x lo hi mx
    | _, _, _, _ => none
  | .fieldAddr s x f => match ρ x with
    | some a => afieldAddr T s a f
    | none => none
  | .field s x f => match ρ x with
    | some a => afield T s a f
    | none => none
  | .indexAddr t x ix => match ρ x, ρ ix with
    | some a, some b => aindexAddr T t a b
    | _, _ => none
  | .index t x ix => match ρ x, ρ ix with
    | some a, some b => aindex T t a b
    | _, _ => none
  | .extract x k => match ρ x with
    | some (.tuple vs) => vs.toList[k]?
    | _ => none
  | .sliceToArrayPointer arr x => match T.und arr, ρ x with
    | some (.array n _), some (.slice a len _) => match sbase a with
      | some (i, off) => if len < n ∨ n = 0 then none else some (.pointer (some ⟨i, off, none⟩))
      | none => none
    | _, _ => none
  | .call ⟨.builtin .len, args, ts⟩ => match args.toList, ts.toList with
    | [x], [t] => match ρ x with
      | some a => alen T t a
      | none => none
    | _, _ => none
  | .call ⟨.builtin .min, args, _⟩ => match mapO ρ args.toList with
    | some vs => aminmax false vs
    | none => none
  | .call ⟨.builtin .max, args, _⟩ => match mapO ρ args.toList with
    | some vs => aminmax true vs
    | none => none
  | _ => none

end Go.Proofs.Ytggkdjhgknghcaa.Am

namespace Go.Proofs.Ytggkdjhgknghcaa.Am

def OV (μ : List Place) : Option Value → Option Value → Prop
  | none, none => True
  | some a, some b => VR μ a b
  | _, _ => False

section
variable {P : Program} {T : Tab} {μ : List Place} (hT : TabOk P T) (w : World)

theorem bound_sound {v v' : Option Value} {d m n : Nat} (h : bound? v d m = some n) (hv : OV μ v v') :
    (v = none ∧ v' = none ∧ n = d ∧ d ≤ m) ∨ (∃ x', v' = some x' ∧ v ≠ none ∧ n ≤ m ∧ ∀ Y code, m ≤ Y → (Instr.sliceBound x' Y code).run P w = .ok n w) := by
  cases v with
  | none =>
    cases v' with
    | none => left; simp [bound?] at h; exact ⟨rfl, rfl, h.2.symm, h.1⟩
    | some x => exact hv.elim
  | some x =>
    cases v' with
    | none => exact hv.elim
    | some x' =>
      right
      cases x with
      | int k i =>
        cases hv
        simp only [bound?] at h
        split at h
        · rename_i hb
          simp at h; subst h
          refine ⟨_, rfl, by simp, by omega, fun Y code hY => ?_⟩
          unfold Instr.sliceBound
          simp only [asIntOf, pure_bind]
          rw [if_pos ⟨hb.1, by omega⟩]
          rfl
        · cases h
      | _ => simp [bound?] at h

/-- What a bound comes to in the model. -/
def OB (P : Program) (w : World) (v' : Option Value) (d Y n : Nat) : Prop := (v' = none ∧ n = d) ∨ (∃ x, v' = some x ∧ ∀ code, (Instr.sliceBound x Y code).run P w = .ok n w)

theorem bounds_run {b : Bool} {len cap' l h m' : Nat} {lo' hi' mx' : Option Value} (hm : OB P w mx' cap' cap' m') (hh : OB P w hi' len m' h) (hl : OB P w lo' 0 h l)
    (hc : ¬ (mx'.isSome = true ∧ hi' = none)) : (Instr.sliceBounds b len cap' lo' hi' mx').run P w = .ok (l, h, m') w := by
  unfold Instr.sliceBounds
  rcases hm with ⟨rfl, rfl⟩ | ⟨x, rfl, hm⟩
  · rcases hh with ⟨rfl, rfl⟩ | ⟨y, rfl, hh⟩
    · rcases hl with ⟨rfl, rfl⟩ | ⟨z, rfl, hl⟩
      · rfl
      · simp [hl]
    · rcases hl with ⟨rfl, rfl⟩ | ⟨z, rfl, hl⟩
      · simp [hh]
      · simp [hh, hl]
  · rcases hh with ⟨rfl, rfl⟩ | ⟨y, rfl, hh⟩
    · simp at hc
    · rcases hl with ⟨rfl, rfl⟩ | ⟨z, rfl, hl⟩
      · simp [hm, hh]
      · simp [hm, hh, hl]

theorem OB.of {v v' : Option Value} {d m n : Nat} (h : bound? v d m = some n) (hv : OV μ v v') (Y : Nat) (hY : m ≤ Y) : OB P w v' d Y n := by
  rcases bound_sound (P := P) w h hv with ⟨rfl, rfl, rfl, _⟩ | ⟨x', rfl, _, hle, hr⟩
  · exact .inl ⟨rfl, rfl⟩
  · exact .inr ⟨x', rfl, fun code => hr Y code hY⟩
theorem bound_le {v : Option Value} {d m n : Nat} (h : bound? v d m = some n) : n ≤ m := by
  cases v with
  | none => simp [bound?] at h; omega
  | some x =>
    cases x <;> simp [bound?] at h
    omega
theorem OV.none_iff {v v' : Option Value} (h : OV μ v v') : v = none ↔ v' = none := by
  cases v <;> cases v' <;> simp_all [OV]

theorem cut_sound {i off len cap cap' size : Nat} {lo hi mx lo' hi' mx' : Option Value} {v : Value} (b : Bool) (h : cut i off len cap size lo hi mx = some v)
    (h1 : OV μ lo lo') (h2 : OV μ hi hi') (h3 : OV μ mx mx') (hc : cap ≤ cap') :
    ∃ l h m m', (Instr.sliceBounds b len cap' lo' hi' mx').run P w = .ok (l, h, m') w ∧ l ≤ h ∧ h ≤ m ∧ m ≤ m' ∧
      v = .slice (some ⟨i, off + l * size, none⟩) (h - l) (m - l) ∧ bound? hi len m = some h ∧ bound? mx cap cap = some m := by
  unfold cut at h
  split at h
  · cases h
  rename_i hmh
  split at h
  · cases h
  rename_i m hm
  split at h
  · cases h
  rename_i hh hhh
  split at h
  · cases h
  rename_i l hl
  have hne : ¬ (mx'.isSome = true ∧ hi' = none) := by
    rintro ⟨e1, e2⟩
    apply hmh
    have a := h2.none_iff; have b := h3.none_iff
    cases mx <;> cases hi <;> simp_all
  have hv : v = .slice (some ⟨i, off + l * size, none⟩) (hh - l) (m - l) := by
    simp at h; rw [← h]
  have b1 := bound_le hm; have b2 := bound_le hhh; have b3 := bound_le hl
  by_cases e : mx = none
  · have e' := h3.none_iff.1 e
    subst e; subst e'
    have : m = cap := by simp [bound?] at hm; exact hm.symm
    subst this
    exact ⟨l, hh, m, cap', bounds_run w (.inl ⟨rfl, rfl⟩) (.of w hhh h2 cap' hc) (.of w hl h1 hh (Nat.le_refl _)) hne, b3, b2, hc, hv, hhh, hm⟩
  · have hmm : OB P w mx' cap' cap' m := by
      rcases OB.of (P := P) w hm h3 cap' hc with ⟨e', _⟩ | h
      · exact absurd (h3.none_iff.2 e') e
      · exact .inr h
    exact ⟨l, hh, m, m, bounds_run w hmm (.of w hhh h2 m (Nat.le_refl _)) (.of w hl h1 hh (Nat.le_refl _)) hne, b3, b2, Nat.le_refl _, hv, hhh, hm⟩

theorem add_none (b o k : Nat) : (⟨b, o, none⟩ : Addr).add k = ⟨b, o + k, none⟩ := by
  unfold Addr.add; split
  · simp [*]
  · rfl

theorem VR.ptr_inv {μ i off v} (h : VR μ (.pointer (some ⟨i, off, none⟩)) v) : ∃ p, μ[i]? = some p ∧ v = .pointer (some ⟨p.block, p.off + off, none⟩) := by
  cases h with
  | ptr _ _ p hp => exact ⟨p, hp, rfl⟩

include hT in
theorem aslice_sound {t : TypeId} {x x' : Value} {lo hi mx lo' hi' mx' : Option Value} {v : Value} (h : aslice T t x lo hi mx = some v) (hx : VR μ x x')
    (h1 : OV μ lo lo') (h2 : OV μ hi hi') (h3 : OV μ mx mx') : ∃ r, (Instr.sliceAt t x' lo' hi' mx').run P w = .ok r w ∧ VR μ v r := by
  unfold aslice at h
  split at h
  · rename_i n e i off hu
    split at h
    · rename_i size hsz
      obtain ⟨p, hp, rfl⟩ := hx.ptr_inv
      obtain ⟨l, hh, m, m', hr, q1, q2, q3, rfl, -, -⟩ := cut_sound (P := P) w false h h1 h2 h3 (Nat.le_refl n)
      unfold Instr.sliceAt
      rw [Sem.run_bind, run_und hT hu]
      simp only [Result.andThen_ok, Instr.sureAddr, pure_bind]
      rw [Sem.run_bind, hr]
      simp only [Result.andThen_ok, Sem.run_bind, run_sz hT hsz, Sem.run_pure]
      refine ⟨_, rfl, ?_⟩
      by_cases hlm : l < m
      · rw [if_neg (by omega), add_none, Nat.add_assoc]
        exact .slice _ _ _ _ _ p hp (by omega)
      · have e1 : hh - l = 0 := by omega
        have e2 : m - l = 0 := by omega
        rw [e1, e2]; exact .slice0 _ _ _ _
    · cases h
  · rename_i e a len c hu
    split at h
    · rename_i size hsz
      split at h
      · rename_i i off hb
        have go : ∀ a' c', c ≤ c' → x' = .slice a' len c' → ∃ l hh m m', l ≤ hh ∧ hh ≤ m ∧ m ≤ m' ∧ v = .slice (some ⟨i, off + l * size, none⟩) (hh - l) (m - l) ∧
            bound? hi len m = some hh ∧ bound? mx c c = some m ∧ (Instr.sliceAt t x' lo' hi' mx').run P w = .ok (.slice (if l = m' then a' else a'.map (·.add (l * size))) (hh - l) (m' - l)) w := by
          rintro a' c' hc rfl
          obtain ⟨l, hh, m, m', hr, q1, q2, q3, rfl, q5, q6⟩ := cut_sound (P := P) w true h h1 h2 h3 hc
          refine ⟨l, hh, m, m', q1, q2, q3, rfl, q5, q6, ?_⟩
          unfold Instr.sliceAt
          rw [Sem.run_bind, run_und hT hu]
          simp only [Result.andThen_ok]
          unfold Instr.slice
          rw [Sem.run_bind, run_und hT hu]
          simp only [Result.andThen_ok]
          rw [Sem.run_bind, hr]
          simp only [Result.andThen_ok, Sem.run_bind, run_sz hT hsz, Sem.run_pure]
          congr 2
          by_cases e : l = m' <;> simp [e, eq_comm]
        rcases hx.sbase hb with ⟨p, c', hp, hc, rfl⟩ | ⟨rfl, rfl, a', c', rfl⟩
        · obtain ⟨l, hh, m, m', q1, q2, q3, rfl, -, -, hr⟩ := go _ _ hc rfl
          refine ⟨_, hr, ?_⟩
          by_cases hlm : l < m
          · rw [if_neg (by omega), Option.map_some, add_none, Nat.add_assoc]
            exact .slice _ _ _ _ _ p hp (by omega)
          · have e1 : hh - l = 0 := by omega
            have e2 : m - l = 0 := by omega
            rw [e1, e2]; exact .slice0 _ _ _ _
        · obtain ⟨l, hh, m, m', q1, q2, q3, rfl, q5, q6, hr⟩ := go _ _ (Nat.zero_le _) rfl
          have := bound_le q6
          have e1 : hh - l = 0 := by omega
          have e2 : m - l = 0 := by omega
          refine ⟨_, hr, ?_⟩
          rw [e1, e2]; exact .slice0 _ _ _ _
      · rename_i hb
        split at h
        · cases h
        rename_i hmh
        have hne : ¬ (mx'.isSome = true ∧ hi' = none) := by
          rintro ⟨e1, e2⟩
          apply hmh
          have a := h2.none_iff; have b := h3.none_iff
          cases mx <;> cases hi <;> simp_all
        have key : ∀ cap', bound? mx 0 0 = some 0 → bound? hi 0 0 = some 0 → bound? lo 0 0 = some 0 →
            ∃ m', (Instr.sliceBounds true 0 cap' lo' hi' mx').run P w = .ok (0, 0, m') w ∧ (cap' = 0 → m' = 0) := by
          intro cap' b1 b2 b3
          rcases OB.of (P := P) w b1 h3 cap' (Nat.zero_le _) with ⟨e', _⟩ | hq
          · exact ⟨cap', bounds_run w (.inl ⟨e', rfl⟩) (.of w b2 h2 cap' (Nat.zero_le _)) (.of w b3 h1 0 (Nat.le_refl _)) hne, fun h => h⟩
          · exact ⟨0, bounds_run w (.inr hq) (.of w b2 h2 0 (Nat.le_refl _)) (.of w b3 h1 0 (Nat.le_refl _)) hne, fun _ => rfl⟩
        have fin : ∀ a' cap' m', (Instr.sliceBounds true 0 cap' lo' hi' mx').run P w = .ok (0, 0, m') w →
            ∃ r, (Instr.sliceAt t (.slice a' 0 cap') lo' hi' mx').run P w = .ok r w ∧ r = .slice (if m' = 0 then a' else a'.map (·.add (0 * size))) (0 - 0) (m' - 0) := by
          intro a' cap' m' hr
          unfold Instr.sliceAt
          rw [Sem.run_bind, run_und hT hu]
          simp only [Result.andThen_ok]
          unfold Instr.slice
          rw [Sem.run_bind, run_und hT hu]
          simp only [Result.andThen_ok]
          rw [Sem.run_bind, hr]
          simp only [Result.andThen_ok, Sem.run_bind, run_sz hT hsz, Sem.run_pure]
          exact ⟨_, rfl, rfl⟩
        cases hx with
        | nils =>
          split at h
          · rename_i hc
            obtain ⟨-, -, -, b1, b2, b3⟩ := hc
            simp at h; subst h
            obtain ⟨m', hr, hm'⟩ := key 0 b1 b2 b3
            obtain ⟨r, hr, rfl⟩ := fin none 0 m' hr
            refine ⟨_, hr, ?_⟩
            rw [hm' rfl]; exact .nils
          · rename_i hc
            split at h
            · rename_i hc2; exact absurd ⟨rfl, rfl, rfl, hc2.2⟩ hc
            · cases h
        | slice => simp [Am.sbase] at hb
        | slice0 => simp [Am.sbase] at hb
        | row0 => simp [Am.sbase] at hb
        | row => simp [Am.sbase] at hb
        | empty a' c' =>
          split at h
          · rename_i hc; cases hc.1
          · split at h
            · rename_i hc
              obtain ⟨_, b1, b2, b3⟩ := hc
              simp at h; subst h
              obtain ⟨m', hr, _⟩ := key c' b1 b2 b3
              obtain ⟨r, hr, rfl⟩ := fin a' c' m' hr
              exact ⟨_, hr, .empty _ _⟩
            · cases h
    · cases h
  · cases h

include hT in
theorem aindexAddr_sound {t : TypeId} {x x' ix ix' : Value} {v : Value} (h : aindexAddr T t x ix = some v) (hx : VR μ x x') (hi : VR μ ix ix') :
    ∃ r, (Instr.indexAt t x' ix').run P w = .ok r w ∧ VR μ v r := by
  unfold aindexAddr at h
  simp only [idxAt] at h
  split at h
  · rename_i kk k
    cases hi
    split at h
    · rename_i len e i off hu
      split at h
      · rename_i size hsz
        split at h
        · rename_i hk
          simp at h; subst h
          obtain ⟨p, hp, rfl⟩ := hx.ptr_inv
          unfold Instr.indexAt
          simp only [asIntOf, pure_bind, Sem.run_bind, run_und hT hu, Result.andThen_ok, Instr.sureAddr, Sem.run_pure]
          rw [Sem.run_ite, if_pos hk]
          simp only [Sem.run_bind, run_sz hT hsz, Result.andThen_ok, Sem.run_pure, add_none, Nat.add_assoc]
          exact ⟨_, rfl, .ptr _ _ p hp⟩
        · cases h
      · cases h
    · rename_i e a len c hu
      split at h
      · rename_i size i off hsz hb
        split at h
        · rename_i hk
          simp at h; subst h
          obtain ⟨p, c', hp, hc, rfl⟩ | ⟨h0, -⟩ := hx.sbase hb
          case inr => omega
          unfold Instr.indexAt
          simp only [asIntOf, pure_bind, Sem.run_bind, run_und hT hu, Result.andThen_ok, Instr.sureAddr, Sem.run_pure]
          rw [Sem.run_ite, if_pos hk]
          simp only [Sem.run_bind, run_sz hT hsz, Result.andThen_ok, Sem.run_pure, add_none, Nat.add_assoc]
          exact ⟨_, rfl, .ptr _ _ p hp⟩
        · cases h
      · cases h
    · cases h
  · cases h

include hT in
theorem apart_sound {t : TypeId} {cs : List Value} {cs' : Array Value} {off : Nat} {v : Value} (h : apart T t cs off = some v) (hc : VRs μ cs cs'.toList) :
    ∃ r, (part t cs' off).run P w = .ok r w ∧ VR μ v r := by
  unfold apart at h
  split at h
  · rename_i d hd
    unfold part
    rw [Sem.run_bind, run_isAgg hT hd]
    simp only [Result.andThen_ok]
    split at h
    · rename_i hag
      split at h
      · rename_i n hn
        simp at h; subst h
        rw [if_pos hag]
        simp only [Sem.run_bind, run_sz hT hn, Result.andThen_ok, Sem.run_pure]
        refine ⟨_, rfl, ?_⟩
        have := ((hc.drop off).take n).agg
        have e : cs'.extract off (off + n) = (List.take n (List.drop off cs'.toList)).toArray := by
          apply Array.ext'
          simp [Array.toList_extract, List.extract, Nat.add_sub_cancel_left]
        rw [e]; exact this
      · cases h
    · rename_i hag
      rw [if_neg hag]
      obtain ⟨y, hy, hv⟩ := hc.get h
      have : cs'[off]? = some y := by simpa using hy
      simp only [this]
      exact ⟨y, rfl, hv⟩
  · cases h

include hT in
theorem aindex_sound {t : TypeId} {x x' ix ix' : Value} {v : Value} (h : aindex T t x ix = some v) (hx : VR μ x x') (hi : VR μ ix ix') :
    ∃ r, (Instr.index t x' ix').run P w = .ok r w ∧ VR μ v r := by
  unfold aindex at h
  split at h
  · rename_i kk k
    cases hi
    split at h
    · rename_i len e cs hu
      split at h
      · rename_i size hsz
        split at h
        · rename_i hk
          cases hx with
          | agg _ ys hs hall =>
            obtain ⟨r, hr, hv⟩ := apart_sound (P := P) hT w h (cs' := ys) (VRs.of_agg (.agg _ _ hs hall))
            unfold Instr.index
            simp only [asIntOf, pure_bind, Sem.run_bind, run_und hT hu, Result.andThen_ok]
            rw [Sem.run_ite, if_pos hk]
            simp only [Sem.run_bind, run_sz hT hsz, Result.andThen_ok]
            exact ⟨r, hr, hv⟩
        · cases h
      · cases h
    · rename_i s hu
      split at h
      · rename_i hk
        split at h
        · rename_i b hb
          simp at h; subst h
          cases hx
          unfold Instr.index
          simp only [asIntOf, pure_bind, Sem.run_bind, run_und hT hu, Result.andThen_ok]
          simp only [hk, if_true, hb]
          exact ⟨_, rfl, .int _ _⟩
        · cases h
      · cases h
    · cases h
  · cases h

include hT in
theorem afieldAddr_sound {s : TypeId} {x x' : Value} {f : Nat} {v : Value} (h : afieldAddr T s x f = some v) (hx : VR μ x x') :
    ∃ r, (Instr.fieldAt s x' f).run P w = .ok r w ∧ VR μ v r := by
  unfold afieldAddr at h
  split at h
  · rename_i fs i off hu
    split at h
    · rename_i fd hf
      split at h
      · rename_i n hn
        split at h
        · cases h
        rename_i hn0
        simp at h; subst h
        obtain ⟨p, hp, rfl⟩ := hx.ptr_inv
        have hf' : fs[f]? = some fd := by simpa using hf
        unfold Instr.fieldAt
        simp only [Sem.run_bind, run_und hT hu, Result.andThen_ok, hf', Instr.sureAddr, Sem.run_pure, fieldPlace, run_sz hT hn]
        rw [if_neg hn0]
        simp only [Sem.run_pure, Result.andThen_ok, add_none, Nat.add_assoc]
        exact ⟨_, rfl, .ptr _ _ p hp⟩
      · cases h
    · cases h
  · cases h

include hT in
theorem afield_sound {s : TypeId} {x x' : Value} {f : Nat} {v : Value} (h : afield T s x f = some v) (hx : VR μ x x') :
    ∃ r, (Instr.field s x' f).run P w = .ok r w ∧ VR μ v r := by
  unfold afield at h
  split at h
  · rename_i fs cs hu
    split at h
    · rename_i fd hf
      have hf' : fs[f]? = some fd := by simpa using hf
      cases hx with
      | agg _ ys hs hall =>
        obtain ⟨r, hr, hv⟩ := apart_sound (P := P) hT w h (cs' := ys) (VRs.of_agg (.agg _ _ hs hall))
        unfold Instr.field
        simp only [Sem.run_bind, run_und hT hu, Result.andThen_ok, hf', asAgg, Sem.run_pure]
        exact ⟨r, hr, hv⟩
    · cases h
  · cases h

end
end Go.Proofs.Ytggkdjhgknghcaa.Am

namespace Go.Proofs.Ytggkdjhgknghcaa.Am
section
variable {P : Program} {T : Tab} {μ : List Place} (hT : TabOk P T) (w : World)

include hT in
theorem arr_eq {t e : TypeId} {n : Nat} {k : IntKind} (h1 : T.und t = some (.array n e)) (h2 : T.und e = some (.int k)) (h3 : T.sz e = some 1) (d : Nat) (xs ys : Array Value)
    (hx : xs.size = n) (hy : ys.size = n) (b : Bool) (hb : eqInts xs.toList ys.toList = some b) :
    (Op.equalIn (d + 2) t (.agg xs) (.agg ys)).run P w = .ok b w := by
  unfold Op.equalIn
  simp only [Sem.run_bind, run_und hT h1, Result.andThen_ok, run_sz hT h3]
  rw [Std.Legacy.Range.forIn_eq_forIn_range']
  have key : ∀ (m i : Nat) (b : Bool), i + m = n → eqInts (xs.toList.drop i) (ys.toList.drop i) = some b →
      (forIn (List.range' i m) ((none, ()) : Option Bool × Unit) fun i __s => do
            let __do_lift ← part e xs (i * 1)
            let __do_lift_1 ← part e ys (i * 1)
            let __do_lift ← Op.equalIn (d + 1) e __do_lift __do_lift_1
            if (!__do_lift) = true then pure (ForInStep.done (some false, ())) else pure (ForInStep.yield (none, ()))).run P w =
        .ok (if b then (none, ()) else (some false, ())) w := by
    intro m
    induction m with
    | zero =>
      intro i b hi he
      rw [List.drop_eq_nil_of_le (by simp; omega), List.drop_eq_nil_of_le (by simp; omega)] at he
      simp [eqInts] at he; subst he
      simp
    | succ m ih =>
      intro i b hi he
      have hxi : i < xs.toList.length := by simp; omega
      have hyi : i < ys.toList.length := by simp; omega
      rw [List.drop_eq_getElem_cons hxi, List.drop_eq_getElem_cons hyi] at he
      generalize hgx : xs.toList[i] = vx at he
      generalize hgy : ys.toList[i] = vy at he
      have px : ∀ w, (part e xs (i * 1)).run P w = .ok vx w := by
        intro w
        unfold part
        rw [Sem.run_bind, run_isAgg hT h2]
        have : xs[i]? = some vx := by rw [← hgx]; simp at hxi ⊢
        simp [aggD, this]
      have py : ∀ w, (part e ys (i * 1)).run P w = .ok vy w := by
        intro w
        unfold part
        rw [Sem.run_bind, run_isAgg hT h2]
        have : ys[i]? = some vy := by rw [← hgy]; simp at hyi ⊢
        simp [aggD, this]
      cases vx with
      | int k1 a =>
        cases vy with
        | int k2 c =>
          simp only [eqInts] at he
          split at he
          · rename_i hk
            subst hk
            split at he
            · rename_i t' ht'
              simp at he
              have hq : (Op.equalIn (d + 1) e (.int k1 a) (.int k1 c)).run P w = .ok (a == c) w := by
                unfold Op.equalIn
                simp [Sem.run_bind, run_und hT h2]
              rw [List.range'_succ, List.forIn_cons]
              simp only [Sem.run_bind, px, py, Result.andThen_ok, hq, Sem.run_ite, Sem.run_pure]
              by_cases hac : a = c
              · subst hac
                simp at he; subst he
                simp only [beq_self_eq_true, Bool.not_true, Bool.false_eq_true, if_false, Result.andThen_ok]
                exact ih (i + 1) t' (by omega) ht'
              · have hf : (a == c) = false := by simpa using hac
                rw [hf] at he ⊢
                simp at he; subst he
                simp
            · cases he
          · cases he
        | _ => simp [eqInts] at he
      | _ => simp [eqInts] at he
  have hr : (([:n] : Std.Legacy.Range).start) = 0 := rfl
  have hsz : Std.Legacy.Range.size [:n] = n := by simp [Std.Legacy.Range.size]
  rw [hsz, hr]
  rw [key n 0 b (by omega) (by simpa using hb)]
  cases b <;> simp

theorem VR.isNone {μ} {a : Option Addr} {v} (h : VR μ (.pointer a) v) : ∃ a', v = .pointer a' ∧ a'.isNone = a.isNone := by
  cases h with
  | nilp => exact ⟨none, rfl, rfl⟩
  | ptr _ _ p hp => exact ⟨_, rfl, rfl⟩

theorem eqInts_sound : ∀ {xs ys xs' ys' : List Value} {b}, eqInts xs ys = some b → VRs μ xs xs' → VRs μ ys ys' → eqInts xs' ys' = some b := by
  intro xs
  induction xs with
  | nil =>
    intro ys xs' ys' b h h1 h2
    cases ys with
    | nil => rw [h1.eq_nil, h2.eq_nil]; exact h
    | cons y r => simp [eqInts] at h
  | cons x r ih =>
    intro ys xs' ys' b h h1 h2
    cases ys with
    | nil => cases x <;> simp [eqInts] at h
    | cons y r' =>
      obtain ⟨x', l', rfl, hx, hl⟩ := h1.uncons
      obtain ⟨y', m', rfl, hy, hm⟩ := h2.uncons
      cases x with
      | int k a =>
        cases y with
        | int k' c =>
          cases hx; cases hy
          simp only [eqInts] at h ⊢
          split at h
          · rename_i hk
            rw [if_pos hk]
            split at h
            · rename_i t ht
              rw [ih ht hl hm]; exact h
            · cases h
          · cases h
        | _ => simp [eqInts] at h
      | _ => simp [eqInts] at h

include hT in
theorem aeq_sound {t : TypeId} {x y x' y' : Value} {b : Bool} (h : aeq T t x y = some b) (hx : VR μ x x') (hy : VR μ y y') :
    (Op.equal t x' y').run P w = .ok b w ∧
      (∀ (op : BinOp) (a c : Operand), (eqGuard op t a c x' y').run P w = .ok () w) ∧
      (binOp .eql t x' y' = (do pure (.bool (← Op.equal t x' y')))) ∧ (binOp .neq t x' y' = (do pure (.bool (!(← Op.equal t x' y'))))) := by
  unfold aeq at h
  split at h
  · rename_i a c
    cases hx; cases hy
    split at h
    · rename_i hu
      simp at h; subst h
      refine ⟨?_, ?_, rfl, rfl⟩
      · show (Op.equalIn (9999 + 1) t _ _).run P w = _
        unfold Op.equalIn
        simp [Sem.run_bind, run_und hT hu]
      · intro op a c
        unfold eqGuard
        split <;> rfl
    · cases h
  · rename_i c
    cases hx
    obtain ⟨c', rfl, hc⟩ := hy.isNone
    split at h
    · rename_i e hu
      simp at h; subst h
      refine ⟨?_, ?_, rfl, rfl⟩
      · show (Op.equalIn (9999 + 1) t _ _).run P w = _
        unfold Op.equalIn
        simp [Sem.run_bind, run_und hT hu, hc]
      · intro op a c
        unfold eqGuard
        split <;> rfl
    · cases h
  · rename_i a
    obtain ⟨a', rfl, ha⟩ := hx.isNone
    cases hy
    cases a' with
    | none => simp at ha
    | some a' =>
    split at h
    · rename_i e hu
      simp at h; subst h
      refine ⟨?_, ?_, rfl, rfl⟩
      · show (Op.equalIn (9999 + 1) t _ _).run P w = _
        unfold Op.equalIn
        simp [Sem.run_bind, run_und hT hu]
      · intro op a c
        unfold eqGuard
        split <;> rfl
    · cases h
  · rename_i xs ys
    split at h
    · rename_i n e hu
      split at h
      · rename_i k he hs
        split at h
        · rename_i hg
          obtain ⟨hg, hxn, hyn⟩ := hg
          cases hx with
          | agg _ xs' hsx hallx =>
            cases hy with
            | agg _ ys' hsy hally =>
              have hb := eqInts_sound h (VRs.of_agg (.agg _ _ hsx hallx)) (VRs.of_agg (.agg _ _ hsy hally))
              refine ⟨?_, ?_, rfl, rfl⟩
              · exact arr_eq hT w hu he hs 9998 xs' ys' (hsx ▸ hxn) (hsy ▸ hyn) b hb
              · intro op a c
                cases op <;> simp [eqGuard, Sem.run_bind, hT.eqg t hg]
        · cases h
      · cases h
    · cases h
  · cases h

theorem aint_sound {op : BinOp} {t : TypeId} {k : IntKind} {p q : Int} {v : Value} (h : aint op k p q = some v) (hl : op ≠ .shl) (hr : op ≠ .shr) :
    ∃ r, (binOp op t (.int k p) (.int k q)).run P w = .ok r w ∧ VR μ v r := by
  cases op <;> simp only [aint] at h
  case shl => exact absurd rfl hl
  case shr => exact absurd rfl hr
  case quo =>
    split at h
    · cases h
    rename_i hq
    cases h
    exact ⟨_, by simp [binOp, Op.intDiv, hq], .int _ _⟩
  case rem =>
    split at h
    · cases h
    rename_i hq
    cases h
    exact ⟨_, by simp [binOp, Op.intDiv, hq], .int _ _⟩
  all_goals first
    | (cases h; done)
    | (cases h; exact ⟨_, by simp only [binOp, Op.intArith, ne_eq, not_true_eq_false, if_false, Sem.run_pure]; rfl, .int _ _⟩)
    | (cases h; exact ⟨_, by simp only [binOp, Op.intBits, ne_eq, not_true_eq_false, if_false, Sem.run_pure]; rfl, .int _ _⟩)
    | (cases h; exact ⟨_, by simp only [binOp, Op.intCmp, ne_eq, not_true_eq_false, if_false, Sem.run_pure], .bool _⟩)

include hT in
theorem abin_sound {op : BinOp} {t : TypeId} {x y x' y' : Value} {v : Value} (h : abin T op t x y = some v) (hx : VR μ x x') (hy : VR μ y y') (a c : Operand) :
    ∃ r, (do eqGuard op t a c x' y'; binOp op t x' y' : Sem Value).run P w = .ok r w ∧ VR μ v r := by
  unfold abin at h
  split at h
  · rename_i k p k' q
    cases hx; cases hy
    have hg : (eqGuard op t a c (.int k p) (.int k' q)).run P w = .ok () w := by
      unfold eqGuard; split <;> rfl
    simp only [Sem.run_bind, hg, Result.andThen_ok]
    split at h
    · split at h
      · cases h
      rename_i hq
      simp at h; subst h
      refine ⟨_, ?_, .int _ _⟩
      simp [binOp, Op.shift, hq]
    · split at h
      · cases h
      rename_i hq
      simp at h; subst h
      refine ⟨_, ?_, .int _ _⟩
      simp [binOp, Op.shift, hq]
    · rename_i hl hr
      split at h
      · rename_i hk
        subst hk
        exact aint_sound w h (fun e => hl e) (fun e => hr e)
      · cases h
  · rename_i p q
    cases hx; cases hy
    have hg : (eqGuard op t a c (.string p) (.string q)).run P w = .ok () w := by
      unfold eqGuard; split <;> rfl
    simp only [Sem.run_bind, hg, Result.andThen_ok]
    split at h
    · split at h
      · rename_i hl
        simp at h; subst h
        refine ⟨_, ?_, .string _⟩
        show (Op.stringOp .add p q).run P w = _
        have hm : ¬ (((p.size + q.size : Nat) : Int) > IntKind.i64.max) := by
          have : IntKind.i64.max = 9223372036854775807 := rfl
          rw [this]; omega
        simp only [Op.stringOp]
        rw [if_neg hm]; rfl
      · cases h
    · simp at h; subst h
      exact ⟨_, rfl, .bool _⟩
    · simp at h; subst h
      exact ⟨_, rfl, .bool _⟩
    · cases h
  · rename_i x1 y1 hni hns
    split at h
    · split at h
      · rename_i b hb
        simp at h; subst h
        obtain ⟨h1, h2, h3, _⟩ := aeq_sound hT w hb hx hy
        refine ⟨_, ?_, .bool _⟩
        simp only [Sem.run_bind, h2, Result.andThen_ok, h3, h1, Sem.run_pure]
      · cases h
    · split at h
      · rename_i b hb
        simp at h; subst h
        obtain ⟨h1, h2, _, h4⟩ := aeq_sound hT w hb hx hy
        refine ⟨_, ?_, .bool _⟩
        simp only [Sem.run_bind, h2, Result.andThen_ok, h4, h1, Sem.run_pure]
      · cases h
    · cases h

theorem aun_sound {op : UnOp} {x x' v : Value} (h : aun op x = some v) (hx : VR μ x x') : ∃ r, (Op.unary op x').run P w = .ok r w ∧ VR μ v r := by
  unfold aun at h
  split at h
  · cases hx; cases h; exact ⟨_, rfl, .int _ _⟩
  · cases hx; cases h; exact ⟨_, rfl, .int _ _⟩
  · cases hx; cases h; exact ⟨_, rfl, .bool _⟩
  · cases h

include hT in
theorem aconv_sound {src dst : TypeId} {x x' v : Value} (h : aconv T src dst x = some v) (hx : VR μ x x') : ∃ r, (convert src dst x').run P w = .ok r w ∧ VR μ v r := by
  unfold aconv at h
  split at h
  · rename_i d k kk n h1 h2
    cases hx; simp at h; subst h
    refine ⟨_, ?_, .int _ _⟩
    unfold convert
    simp only [Sem.run_bind, run_und hT h1, run_und hT h2, Result.andThen_ok, Conv.intToInt, Sem.run_pure]
  · rename_i d kk n h1 h2
    cases hx; simp at h; subst h
    refine ⟨_, ?_, .string _⟩
    unfold convert
    simp only [Sem.run_bind, run_und hT h1, run_und hT h2, Result.andThen_ok, Conv.intToString, Sem.run_pure]
  · cases h

include hT in
theorem alen_sound {t : TypeId} {r : TypeId} {x x' v : Value} (h : alen T t x = some v) (hx : VR μ x x') :
    ∃ r', (Builtin.len_ #[t] r #[x']).run P w = .ok r' w ∧ VR μ v r' := by
  unfold alen at h
  unfold Builtin.len_
  split at h
  · rename_i s hu
    cases hx; simp at h; subst h
    exact ⟨_, by simp [Sem.run_bind, run_und hT hu, goInt], .int _ _⟩
  · rename_i n e hu
    simp at h; subst h
    exact ⟨_, by simp [Sem.run_bind, run_und hT hu, goInt], .int _ _⟩
  · rename_i e a n c hu
    simp at h; subst h
    cases hx <;> exact ⟨_, by simp [Sem.run_bind, run_und hT hu, goInt], .int _ _⟩
  · cases h

theorem min_sound {vs vs' : List Value} {v : Value} (h : aminmax false vs = some v) (hv : VRs μ vs vs') (ts : Array TypeId) (r : TypeId) :
    ∃ r', (Builtin.min_ ts r vs'.toArray).run P w = .ok r' w ∧ VR μ v r' := by
  unfold aminmax at h
  split at h
  · rename_i k x k' y
    split at h
    · rename_i hk
      subst hk
      simp at h; subst h
      obtain ⟨a, l, rfl, ha, hl⟩ := hv.uncons
      obtain ⟨b, l2, rfl, hb, hl2⟩ := hl.uncons
      rw [hl2.eq_nil]
      cases ha; cases hb
      exact ⟨_, by simp [Builtin.min_, Builtin.min2], .int _ _⟩
    · cases h
  · cases h
theorem max_sound {vs vs' : List Value} {v : Value} (h : aminmax true vs = some v) (hv : VRs μ vs vs') (ts : Array TypeId) (r : TypeId) :
    ∃ r', (Builtin.max_ ts r vs'.toArray).run P w = .ok r' w ∧ VR μ v r' := by
  unfold aminmax at h
  split at h
  · rename_i k x k' y
    split at h
    · rename_i hk
      subst hk
      simp at h; subst h
      obtain ⟨a, l, rfl, ha, hl⟩ := hv.uncons
      obtain ⟨b, l2, rfl, hb, hl2⟩ := hl.uncons
      rw [hl2.eq_nil]
      cases ha; cases hb
      exact ⟨_, by simp [Builtin.max_, Builtin.max2], .int _ _⟩
    · cases h
  · cases h

theorem mapO_sound {α : Type} {f : α → Option Value} {g : α → Value} : ∀ {l : List α} {vs : List Value}, mapO f l = some vs → (∀ a ∈ l, ∀ v, f a = some v → VR μ v (g a)) → VRs μ vs (l.map g) := by
  intro l
  induction l with
  | nil => intro vs h _; simp [mapO] at h; subst h; exact .nil
  | cons a r ih =>
    intro vs h hf
    simp only [mapO] at h
    split at h
    · rename_i b hb
      split at h
      · rename_i l' hl'
        simp at h; subst h
        exact .cons (hf a (by simp) b hb) (ih hl' fun a ha => hf a (by simp [ha]))
      · cases h
    · cases h

theorem opt_sound {ρ : Operand → Option Value} {ρ' : Operand → Value} {o : Option Operand} {v : Option Value} (h : optO ρ o = some v) (hf : ∀ x ∈ o, ∀ v, ρ x = some v → VR μ v (ρ' x)) : OV μ v (o.map ρ') := by
  cases o with
  | none => simp [optO] at h; subst h; trivial
  | some x =>
    simp only [optO] at h
    split at h
    · rename_i v' hv'
      simp at h; subst h
      exact hf x rfl _ hv'
    · cases h

/-- Parts, one by one. -/
def PR (μ : List Place) : List (Nat × Value) → List (Nat × Value) → Prop
  | [], [] => True
  | a :: r, b :: s => a.1 = b.1 ∧ VR μ a.2 b.2 ∧ PR μ r s
  | _, _ => False

theorem parts_sound {ρ : Operand → Option Value} {ρ' : Operand → Value} : ∀ {ps : List (Nat × Operand)} {vs}, partsO ρ ps = some vs → (∀ p ∈ ps, ∀ v, ρ p.2 = some v → VR μ v (ρ' p.2)) →
    PR μ vs (ps.map fun p => (p.1, ρ' p.2)) := by
  intro ps
  induction ps with
  | nil => intro vs h _; simp [partsO, mapO] at h; subst h; trivial
  | cons p r ih =>
    intro vs h hf
    simp only [partsO, mapO] at h
    split at h
    · rename_i b hb
      split at h
      · rename_i l' hl'
        simp at h; subst h
        split at hb
        · rename_i v hv
          simp at hb; subst hb
          exact ⟨rfl, hf p (by simp) v hv, ih hl' fun q hq => hf q (by simp [hq])⟩
        · cases hb
      · cases h
    · cases h

theorem foldl_set_sound : ∀ {xs ys : List (Value × Nat)} {cs ds : Array Value} (off : Nat), xs.length = ys.length → (∀ (i : Nat) x y, xs[i]? = some x → ys[i]? = some y → x.2 = y.2 ∧ VR μ x.1 y.1) →
    VRs μ cs.toList ds.toList → VRs μ (xs.foldl (fun cs (c, j) => cs.setIfInBounds (off + j) c) cs).toList (ys.foldl (fun cs (c, j) => cs.setIfInBounds (off + j) c) ds).toList := by
  intro xs
  induction xs with
  | nil => intro ys cs ds off hl _ h; cases ys with | nil => exact h | cons y r => simp at hl
  | cons x r ih =>
    intro ys cs ds off hl hall h
    cases ys with
    | nil => simp at hl
    | cons y s =>
      obtain ⟨h1, h2⟩ := hall 0 x y rfl rfl
      simp only [List.foldl_cons]
      refine ih off (by simpa using hl) (fun i a b ha hb => hall (i + 1) a b (by simpa using ha) (by simpa using hb)) ?_
      simp only [h1, Array.toList_setIfInBounds]
      exact h.set h2 _

theorem fill_sound {place : Nat → Option (Nat × Nat)} : ∀ {vs vs' : List (Nat × Value)} {cs cs' : Array Value} {out : Array Value}, Instr.fill place cs vs = some out → PR μ vs vs' → VRs μ cs.toList cs'.toList →
    ∃ out', Instr.fill place cs' vs' = some out' ∧ VRs μ out.toList out'.toList := by
  intro vs
  induction vs with
  | nil =>
    intro vs' cs cs' out h hp hc
    cases vs' with
    | nil => simp [Instr.fill] at h; subst h; exact ⟨cs', rfl, hc⟩
    | cons a b => exact hp.elim
  | cons p r ih =>
    intro vs' cs cs' out h hp hc
    cases vs' with
    | nil => exact hp.elim
    | cons q s =>
      obtain ⟨i, v⟩ := p
      obtain ⟨j, u⟩ := q
      obtain ⟨h1, h2, h3⟩ := hp
      simp only at h1 h2; subst h1
      simp only [Instr.fill] at h ⊢
      split at h
      · cases h
      rename_i off size hpl
      have hcl : v.cells.size = u.cells.size := by have := h2.cells.1; simpa using this
      have hcs : cs.size = cs'.size := by have := hc.1; simpa using this
      split at h
      · cases h
      rename_i hn
      simp only [hpl, ← hcl, ← hcs]
      rw [if_neg hn]
      refine ih h h3 ?_
      rw [← Array.foldl_toList, ← Array.foldl_toList]
      refine foldl_set_sound off (by simp [hcl]) ?_ hc
      intro m a b ha hb
      rw [Array.toList_zipIdx, List.getElem?_zipIdx] at ha hb
      simp only [Option.map_eq_some_iff] at ha hb
      obtain ⟨a', ha', rfl⟩ := ha
      obtain ⟨b', hb', rfl⟩ := hb
      exact ⟨rfl, h2.cells.2 m a' b' ha' hb'⟩

theorem cells_plain {v} (h : Am.plain v = true) : VRs μ v.cells.toList v.cells.toList := (VR.plain (μ := μ) h).cells

include hT in
theorem places_run : ∀ {fs : List Field} {l : List (Nat × Nat)}, mapO (fun f : Field => match T.sz f.type with | some n => some (f.offset, n) | none => none) fs = some l →
    (fs.mapM fun f => do pure (f.offset, ← sizeOf f.type) : Sem (List (Nat × Nat))).run P w = .ok l w := by
  intro fs
  induction fs with
  | nil => intro l h; simp [mapO] at h; subst h; simp
  | cons f r ih =>
    intro l h
    simp only [mapO] at h
    split at h
    · rename_i b hb
      split at h
      · rename_i l' hl'
        simp at h; subst h
        split at hb
        · rename_i n hn
          simp at hb; subst hb
          simp [List.mapM_cons, Sem.run_bind, run_sz hT hn]
          have := ih hl'
          simp at this
          rw [this]; rfl
        · cases hb
      · cases h
    · cases h

include hT in
theorem abuild_sound {t : TypeId} {ps : List (Nat × Value)} {ps' : Array (Nat × Value)} {v : Value} (h : abuild T t ps = some v) (hp : PR μ ps ps'.toList) :
    ∃ r, (Instr.build t ps').run P w = .ok r w ∧ VR μ v r := by
  unfold abuild at h
  split at h
  · rename_i z hz
    split at h
    · rename_i hpl
      unfold Instr.build
      simp only [Sem.run_bind, run_zero hT hz, Result.andThen_ok]
      split at h
      · rename_i n e hu
        simp only [run_und hT hu, Result.andThen_ok]
        split at h
        · rename_i size hs
          split at h
          · rename_i cs hcs
            simp at h; subst h
            obtain ⟨out, ho, hv⟩ := fill_sound hcs hp (cells_plain (μ := μ) hpl)
            simp only [Sem.run_bind, run_sz hT hs, Result.andThen_ok, ho, Sem.run_pure]
            exact ⟨_, rfl, by simpa using hv.agg⟩
          · cases h
        · cases h
      · rename_i fs hu
        simp only [run_und hT hu, Result.andThen_ok]
        split at h
        · rename_i places hpls
          split at h
          · rename_i cs hcs
            simp at h; subst h
            have hr := places_run hT w hpls
            have hr' : (fs.mapM fun f => do pure (f.offset, ← sizeOf f.type) : Sem (Array (Nat × Nat))).run P w = .ok places.toArray w := by
              rw [Array.mapM_eq_mapM_toList, Sem.run_map, hr]; rfl
            obtain ⟨out, ho, hv⟩ := fill_sound hcs hp (cells_plain (μ := μ) hpl)
            have ho' : Instr.fill (fun x => places.toArray[x]?) z.cells ps'.toList = some out := by simpa using ho
            simp only [Sem.run_bind, hr', Result.andThen_ok, ho', Sem.run_pure]
            exact ⟨_, rfl, by simpa using hv.agg⟩
          · cases h
        · cases h
      · cases h
    · cases h
  · cases h

end
end Go.Proofs.Ytggkdjhgknghcaa.Am

namespace Go.Proofs.Ytggkdjhgknghcaa.Am
section
variable {P : Program} {T : Tab} {μ : List Place} (hT : TabOk P T) (w : World)

theorem parts_map_eq (ps : Array (Nat × Operand)) (ρ' : Operand → Value) : (ps.map fun (i, x) => (i, ρ' x)).toList = ps.toList.map fun p => (p.1, ρ' p.2) := by
  simp

include hT in
theorem apure_sound {ρ : Operand → Option Value} {ρ' : Operand → Value} {o : Oper} {v : Value} (h : apure T ρ o.op = some v)
    (hρ : ∀ x ∈ o.op.operands, ∀ va, ρ x = some va → VR μ va (ρ' x)) : ∃ r, (execOp ρ' o).run P w = .ok (.value r) w ∧ VR μ v r := by
  obtain ⟨dst, op, ty, pos, after, guard⟩ := o
  simp only at h hρ ⊢
  have lift : ∀ {s : Sem Value}, (∃ r, s.run P w = .ok r w ∧ VR μ v r) → ∃ r, (do pure (Next.value (← s)) : Sem Next).run P w = .ok (.value r) w ∧ VR μ v r := by
    rintro s ⟨r, h1, h2⟩
    exact ⟨r, by simp [Sem.run_bind, h1], h2⟩
  cases op with
  | move x => exact ⟨ρ' x, rfl, hρ x (by simp [Op.operands]) v h⟩
  | assign x => exact ⟨ρ' x, rfl, hρ x (by simp [Op.operands]) v h⟩
  | pick c a b =>
    simp only [apure] at h
    have hc := hρ c (by simp [Op.operands])
    split at h
    · rename_i hcv
      have hc := hc _ hcv
      generalize hq : ρ' c = q at hc
      cases hc
      refine ⟨ρ' a, ?_, hρ a (by simp [Op.operands]) v h⟩
      simp [execOp, hq, asBool]
    · rename_i hcv
      have hc := hc _ hcv
      generalize hq : ρ' c = q at hc
      cases hc
      refine ⟨ρ' b, ?_, hρ b (by simp [Op.operands]) v h⟩
      simp [execOp, hq, asBool]
    · cases h
  | build t ps =>
    simp only [apure] at h
    split at h
    · rename_i vs hvs
      refine lift (abuild_sound hT w h ?_)
      rw [parts_map_eq]
      refine parts_sound hvs fun p hp v hv => hρ p.2 ?_ v hv
      simp only [Op.operands]
      simp only [List.mem_toArray, List.mem_map]
      exact ⟨p, hp, rfl⟩
    · cases h
  | nilCheck x =>
    simp only [apure] at h
    have hx := hρ x (by simp [Op.operands])
    split at h
    · rename_i a ha
      simp at h; subst h
      have hx := hx _ ha
      generalize hq : ρ' x = q at hx
      cases hx with
      | ptr i off p hp =>
        refine ⟨_, ?_, .ptr i off p hp⟩
        simp [execOp, hq]
    · rename_i f xs cs ha
      simp at h; subst h
      have hx := hx _ ha
      generalize hq : ρ' x = q at hx
      cases hx with
      | func _ _ ys _ ds h1 h2 h3 h4 =>
        refine ⟨_, ?_, .func _ _ _ _ _ h1 h2 h3 h4⟩
        simp [execOp, hq]
    · cases h
  | binOp op t x y t2 =>
    simp only [apure] at h
    split at h
    · rename_i a b ha hb
      exact lift (abin_sound hT w h (hρ x (by simp [Op.operands]) _ ha) (hρ y (by simp [Op.operands]) _ hb) x y)
    · cases h
  | unOp op t x =>
    simp only [apure] at h
    split at h
    · rename_i a ha
      exact lift (aun_sound w h (hρ x (by simp [Op.operands]) _ ha))
    · cases h
  | convert src dst x =>
    simp only [apure] at h
    split at h
    · rename_i a ha
      exact lift (aconv_sound hT w h (hρ x (by simp [Op.operands]) _ ha))
    · cases h
  | makeFunc fn first captured =>
    simp only [apure] at h
    split at h
    · rename_i xs cs h1 h2
      simp at h; subst h
      have a1 := mapO_sound (g := ρ') h1 fun a ha v hv => hρ a (by simp [Op.operands] at ha ⊢; exact .inl ha) v hv
      have a2 := mapO_sound (g := ρ') h2 fun a ha v hv => hρ a (by simp [Op.operands] at ha ⊢; exact .inr ha) v hv
      refine ⟨.func fn (first.map ρ') (captured.map ρ'), ?_, ?_⟩
      · simp [execOp, Instr.makeFunc]
      · refine .func _ _ _ _ _ (by simpa using a1.1) (fun i x y hx hy => a1.2 i x y (by simpa using hx) ?_) (by simpa using a2.1) (fun i x y hx hy => a2.2 i x y (by simpa using hx) ?_)
        · rw [← Array.toList_map]; simpa using hy
        · rw [← Array.toList_map]; simpa using hy
    · cases h
  | slice t x lo hi mx =>
    simp only [apure] at h
    split at h
    · rename_i x1 lo1 hi1 mx1 e1 e2 e3 e4
      refine lift (aslice_sound hT w h (hρ x (by simp [Op.operands]) _ e1) (opt_sound e2 fun y hy v hv => hρ y ?_ v hv) (opt_sound e3 fun y hy v hv => hρ y ?_ v hv) (opt_sound e4 fun y hy v hv => hρ y ?_ v hv))
      all_goals (simp at hy; subst hy; simp [Op.operands])
    · cases h
  | fieldAddr s x f =>
    simp only [apure] at h
    split at h
    · rename_i a ha
      exact lift (afieldAddr_sound hT w h (hρ x (by simp [Op.operands]) _ ha))
    · cases h
  | field s x f =>
    simp only [apure] at h
    split at h
    · rename_i a ha
      exact lift (afield_sound hT w h (hρ x (by simp [Op.operands]) _ ha))
    · cases h
  | indexAddr t x ix =>
    simp only [apure] at h
    split at h
    · rename_i a b ha hb
      exact lift (aindexAddr_sound hT w h (hρ x (by simp [Op.operands]) _ ha) (hρ ix (by simp [Op.operands]) _ hb))
    · cases h
  | index t x ix =>
    simp only [apure] at h
    split at h
    · rename_i a b ha hb
      exact lift (aindex_sound hT w h (hρ x (by simp [Op.operands]) _ ha) (hρ ix (by simp [Op.operands]) _ hb))
    · cases h
  | extract x k =>
    simp only [apure] at h
    split at h
    · rename_i vs hvs
      have hx := hρ x (by simp [Op.operands]) _ hvs
      refine lift ?_
      generalize ρ' x = q at hx
      cases hx with
      | tuple _ ys hs hall =>
        have h' : vs[k]? = some v := by simpa using h
        have hk := (Array.getElem?_eq_some_iff.1 h').1
        have hy : ys[k]? = some (ys[k]'(hs ▸ hk)) := Array.getElem?_eq_getElem _
        refine ⟨ys[k]'(hs ▸ hk), ?_, hall k v _ h' hy⟩
        simp [Instr.extract, hy]
    · cases h
  | sliceToArrayPointer arr x =>
    simp only [apure] at h
    split at h
    · rename_i n e a len c hu hx
      split at h
      · rename_i i off hb
        split at h
        · cases h
        rename_i hn0
        have hn : ¬ len < n := fun h => hn0 (.inl h)
        have hn2 : n ≠ 0 := fun h => hn0 (.inr h)
        simp at h; subst h
        obtain ⟨p, c', hp, hc, he⟩ | ⟨h0, -⟩ := (hρ x (by simp [Op.operands]) _ hx).sbase hb
        case inr => omega
        refine lift ⟨_, ?_, .ptr i off p hp⟩
        rw [he]
        unfold Instr.arrayAt
        simp only [Sem.run_bind, run_und hT hu, Result.andThen_ok]
        simp [hn]
      · cases h
    · cases h
  | call c =>
    obtain ⟨callee, args, ts⟩ := c
    cases callee with
    | builtin b =>
      cases b with
      | len =>
        simp only [apure] at h
        split at h
        · rename_i x t e1 e2
          obtain rfl : args = #[x] := by simpa using congrArg List.toArray e1
          obtain rfl : ts = #[t] := by simpa using congrArg List.toArray e2
          split at h
          · rename_i a ha
            obtain ⟨r, h1, h2⟩ := alen_sound (r := ty) hT w h (hρ x (by simp [Op.operands, Call.operands]) _ ha)
            exact ⟨r, by simp [execOp, resolve, invoke, builtin, h1], h2⟩
          · cases h
        · cases h
      | min =>
        simp only [apure] at h
        split at h
        · rename_i vs hvs
          have a1 := mapO_sound (g := ρ') hvs fun a ha v hv => hρ a (by simp [Op.operands, Call.operands] at ha ⊢; exact ha) v hv
          obtain ⟨r, h1, h2⟩ := min_sound (P := P) w h a1 ts ty
          refine ⟨r, ?_, h2⟩
          have e : (List.map ρ' args.toList).toArray = args.map ρ' := by apply Array.ext'; simp
          rw [e] at h1
          simp [execOp, resolve, invoke, builtin, h1]
        · cases h
      | max =>
        simp only [apure] at h
        split at h
        · rename_i vs hvs
          have a1 := mapO_sound (g := ρ') hvs fun a ha v hv => hρ a (by simp [Op.operands, Call.operands] at ha ⊢; exact ha) v hv
          obtain ⟨r, h1, h2⟩ := max_sound (P := P) w h a1 ts ty
          refine ⟨r, ?_, h2⟩
          have e : (List.map ρ' args.toList).toArray = args.map ρ' := by apply Array.ext'; simp
          rw [e] at h1
          simp [execOp, resolve, invoke, builtin, h1]
        · cases h
      | _ => simp [apure] at h
    | _ => simp [apure] at h
  | _ => simp [apure] at h
end
end Go.Proofs.Ytggkdjhgknghcaa.Am
