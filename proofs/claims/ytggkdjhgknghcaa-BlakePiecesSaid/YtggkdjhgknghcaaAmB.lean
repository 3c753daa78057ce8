/- This text holds a part of the machinery of the proof, without conditions of its own: the abstract machine: reading, writing, making memory; an operation of whatever kind. -/
import Derived.Test.YtggkdjhgknghcaaAmA
import Derived.IntWalk
namespace Go.Proofs.Ytggkdjhgknghcaa.Am

def rd (st : St) (i off n : Nat) : Option (List Value) :=
  match st[i]? with
  | some (some r) => if off + n ≤ r.cells.length then some ((r.cells.drop off).take n) else none
  | _ => none

def splice (l : List Value) (k : Nat) (vs : List Value) : List Value :=
  match vs with
  | [v] => l.set k v
  | vs => l.take k ++ vs ++ l.drop (k + vs.length)

def wr (st : St) (i off : Nat) (vs : List Value) : Option St :=
  match st[i]? with
  | some (some r) => if r.kind ≠ .ro ∧ off + vs.length ≤ r.cells.length ∧ vs.all oneC = true then some (st.set i (some ⟨splice r.cells off vs, r.kind⟩)) else none
  | _ => none

def putMany (l : List Value) (k : Nat) : List Value → List Value
  | [] => l
  | v :: vs => putMany (putAt l k v) (k + 1) vs

theorem putMany_eq : ∀ (vs l : List Value) (k : Nat), k ≤ l.length → putMany l k vs = l.take k ++ vs ++ l.drop (k + vs.length) := by
  intro vs
  induction vs with
  | nil => intro l k hk; simp [putMany]
  | cons v vs ih =>
    intro l k hk
    simp only [putMany]
    unfold putAt
    split
    · rename_i hlt
      rw [ih _ _ (by simp; omega)]
      rw [List.take_set, List.drop_set]
      rw [if_pos (by omega)]
      have e : (List.take (k + 1) l).set k v = l.take k ++ [v] := by
        apply List.ext_getElem?
        intro j
        rw [List.getElem?_set, List.length_take]
        by_cases hj : k = j
        · subst hj
          rw [if_pos rfl, if_pos (by omega), List.getElem?_append_right (by simp; omega)]
          simp [Nat.min_eq_left (Nat.le_of_lt hlt)]
        · rw [if_neg hj]
          by_cases hj2 : j < k
          · rw [List.getElem?_append_left (by simp; omega), List.getElem?_take, List.getElem?_take, if_pos (by omega), if_pos hj2]
          · rw [List.getElem?_append_right (by simp; omega), List.getElem?_take, if_neg (by omega)]
            rw [List.getElem?_eq_none]; simp; omega
      rw [e]
      simp [Nat.add_assoc, Nat.add_comm 1]
    · have hk' : k = l.length := by omega
      subst hk'
      rw [ih _ _ (by simp)]
      rw [List.drop_eq_nil_of_le (by simp), List.drop_eq_nil_of_le (by simp)]
      rw [List.take_of_length_le (by simp)]
      simp

theorem splice_eq (l : List Value) (k : Nat) (vs : List Value) (h : k + vs.length ≤ l.length) : splice l k vs = putMany l k vs := by
  rw [putMany_eq _ _ _ (by omega)]
  unfold splice
  split
  · rename_i v
    simp at h
    rw [List.set_eq_take_append_cons_drop]
    rw [if_pos (by omega)]
    simp
  · rfl

section
variable {P : Program} {T : Tab} {n b : Nat} {T0 : Nat → Nat → Prop} {w0 : World} {μ : List Place}

theorem set_same {st : St} {i : Nat} {x : Option Reg} (h : st[i]? = some x) : st.set i x = st := by
  apply List.ext_getElem?
  intro j
  rw [List.getElem?_set]
  by_cases e : i = j
  · subst e; rw [if_pos rfl]
    have := (List.getElem?_eq_some_iff.1 h).1
    rw [if_pos this, h]
  · rw [if_neg e]

theorem storeCells_put : ∀ (vs vs' : List Value) (st : St) (w : World) (i k j : Nat) (bl o : Nat) (r : Reg) (p : Place), R n b T0 w0 μ st w → st[i]? = some (some r) → μ[i]? = some p →
    VRs μ vs vs' → vs.all oneC = true → bl = p.block → o + j = p.off + k →
    ((r.kind = .rw ∧ k + vs.length ≤ r.cells.length) ∨ (∃ e, r.kind = .row e ∧ k ≤ r.cells.length ∧ k + vs.length ≤ p.lim)) →
    ∃ w', (storeCells ⟨bl, o, none⟩ vs' j).run P w = .ok () w' ∧ R n b T0 w0 μ (st.set i (some { r with cells := putMany r.cells k vs })) w' := by
  intro vs
  induction vs with
  | nil =>
    intro vs' st w i k j bl o r p h hi hp hv _ _ _ _
    rw [hv.eq_nil]
    refine ⟨w, rfl, ?_⟩
    simp only [putMany]
    rw [set_same hi]; exact h
  | cons v vs ih =>
    intro vs' st w i k j bl o r p h hi hp hv hone hb ho hk
    obtain ⟨v', vs2, rfl, hv1, hv2⟩ := hv.uncons
    subst hb
    simp only [List.all_cons, Bool.and_eq_true] at hone
    have hk1 : (r.kind = .rw ∧ k < r.cells.length) ∨ (∃ e, r.kind = .row e ∧ k ≤ r.cells.length ∧ k < p.lim) := by
      rcases hk with ⟨a, b⟩ | ⟨e, a, b, c⟩
      · left; simp at b; exact ⟨a, by omega⟩
      · right; simp at c; exact ⟨e, a, b, by omega⟩
    obtain ⟨⟨x, hx⟩, hf, hR⟩ := h.put hi hp hk1 hv1
    have hlen : k ≤ r.cells.length := by rcases hk1 with ⟨_, h⟩ | ⟨_, _, h, _⟩ <;> omega
    have hi' : (st.set i (some { r with cells := putAt r.cells k v }))[i]? = some (some { r with cells := putAt r.cells k v }) := by
      rw [List.getElem?_set, if_pos rfl, if_pos (List.getElem?_eq_some_iff.1 hi).1]
    have hpl : k + 1 ≤ (putAt r.cells k v).length ∧ (k < r.cells.length → (putAt r.cells k v).length = r.cells.length) := by
      unfold putAt; split
      · simp; omega
      · simp; omega
    obtain ⟨w', hr, hR'⟩ := ih vs2 _ _ i (k + 1) (j + 1) p.block o { r with cells := putAt r.cells k v } p hR hi' hp hv2 hone.2 rfl (by omega) (by
      rcases hk with ⟨a, b⟩ | ⟨e, a, b, c⟩
      · left; simp at b; refine ⟨a, ?_⟩; simp only; rw [hpl.2 (by omega)]; omega
      · right; simp at c; exact ⟨e, a, hpl.1, by omega⟩)
    refine ⟨w', ?_, ?_⟩
    · have h1 : v'.oneCell' = true := by
        have := hv1.oneC
        rw [hone.1] at this
        cases v' <;> simp_all [oneC, Value.oneCell']
      simp only [storeCells, Sem.run_bind, add_none]
      rw [ho, run_store P w _ v' .plain h1, hx]
      simp only [hf, Bool.false_eq_true, if_false, Result.andThen_ok]
      exact hr
    · simp only [List.set_set] at hR'
      exact hR'

theorem rd_nil {st : St} {i off : Nat} {vs : List Value} (h : rd st i off 0 = some vs) : vs = [] := by
  unfold rd at h
  split at h
  · split at h
    · simpa using h.symm
    · cases h
  · cases h

theorem rd_sound {st : St} {w : World} {i off m : Nat} {vs : List Value} (h : Good μ st w) (hr : rd st i off m = some vs) {p : Place} (hp : μ[i]? = some p) :
    ∃ vs', (loadCells ⟨p.block, p.off + off, none⟩ m).run P w = .ok vs'.toArray w ∧ VRs μ vs vs' ∧ vs.length = m := by
  unfold rd at hr
  split at hr
  · rename_i r hi
    split at hr
    · rename_i hle
      simp at hr; subst hr
      obtain ⟨hb, hc, _⟩ := h.ok i r p hi hp
      have hcell : ∀ j, j < m → ∃ v', w.cell? ⟨p.block, p.off + off + j, none⟩ = some v' := by
        intro j hj
        obtain ⟨v', h1, _⟩ := hc (off + j) r.cells[off + j] (List.getElem?_eq_getElem (by omega))
        exact ⟨v', by rw [Nat.add_assoc]; exact h1⟩
      refine ⟨(List.range m).map fun j => (w.cell? ⟨p.block, p.off + off + j, none⟩).getD undef, ?_, ⟨by simp; omega, ?_⟩, by simp; omega⟩
      · refine run_loadCells w _ m _ fun j hj => ?_
        obtain ⟨v', hv'⟩ := hcell j hj
        rw [add_none, hv']; rfl
      · intro j x y hx hy
        have hj : j < m := by
          have := (List.getElem?_eq_some_iff.1 hy).1; simpa using this
        rw [List.getElem?_take, if_pos hj, List.getElem?_drop] at hx
        obtain ⟨v', h1, h2⟩ := hc (off + j) x hx
        rw [List.getElem?_map, List.getElem?_range hj] at hy
        simp only [Option.map_some, Option.some.injEq] at hy
        subst hy
        rw [Nat.add_assoc, h1]; exact h2
    · cases hr
  · cases hr


theorem wr_nil {st st' : St} {w : World} {i off : Nat} (h : R n b T0 w0 μ st w) (hw : wr st i off [] = some st') : R n b T0 w0 μ st' w := by
  unfold wr at hw
  split at hw
  · rename_i r hi
    split at hw
    · simp [splice] at hw
      have : st' = st := by
        rw [← hw]
        apply List.ext_getElem?
        intro j
        rw [List.getElem?_set]
        split
        · rename_i e; subst e
          have := (List.getElem?_eq_some_iff.1 hi).1
          rw [if_pos this, hi]
        · rfl
      rw [this]; exact h
    · cases hw
  · cases hw

theorem wr_sound {st st' : St} {w : World} {i off : Nat} {vs vs' : List Value} (h : R n b T0 w0 μ st w) (hw : wr st i off vs = some st') {p : Place} (hp : μ[i]? = some p) (hv : VRs μ vs vs') :
    ∃ w', (storeCells ⟨p.block, p.off + off, none⟩ vs').run P w = .ok () w' ∧ R n b T0 w0 μ st' w' := by
  unfold wr at hw
  split at hw
  · rename_i r hi
    split at hw
    · rename_i hc
      simp at hw; subst hw
      rw [splice_eq _ _ _ hc.2.1]
      obtain ⟨w', h1, h2⟩ := storeCells_put (P := P) vs vs' st w i off 0 p.block (p.off + off) r p h hi hp hv hc.2.2 rfl rfl (by
        cases hk : r.kind with
        | ro => exact absurd hk hc.1
        | rw => exact .inl ⟨rfl, hc.2.1⟩
        | row e =>
          right
          obtain ⟨_, _, hkd⟩ := h.good.ok i r p hi hp
          simp only [hk] at hkd
          obtain ⟨_, _, _, hl, _⟩ := hkd
          exact ⟨e, rfl, by omega, by omega⟩)
      exact ⟨w', h1, h2⟩
    · cases hw
  · cases hw

end

/-- A reading: the value, and the region that it read. -/
def cellAt (st : St) (i off : Nat) : Option (Value × Nat) :=
  match st[i]? with
  | some (some r) => match r.cells[off]? with
    | some v => some (v, i)
    | none => none
  | _ => none
def aload (T : Tab) (st : St) (t : TypeId) (a : Value) : Option (Value × Nat) :=
  match a with
  | .pointer (some ⟨i, off, none⟩) => match T.und t with
    | some d => if aggD d then match T.sz t with
        | some n => match rd st i off n with
          | some vs => some (.agg vs.toArray, i)
          | none => none
        | none => none
      else cellAt st i off
    | none => none
  | _ => none

section
variable {P : Program} {T : Tab} (hT : TabOk P T) {μ : List Place}
include hT in
theorem aload_sound {st : St} {w : World} {t : TypeId} {a a' v : Value} {i : Nat} (h : Good μ st w) (hl : aload T st t a = some (v, i)) (ha : VR μ a a') :
    ∃ r, (Instr.loadAt t a').run P w = .ok r w ∧ VR μ v r := by
  unfold aload at hl
  simp only [cellAt] at hl
  split at hl
  · rename_i j off
    obtain ⟨p, hp, rfl⟩ := ha.ptr_inv
    split at hl
    · rename_i d hd
      unfold Instr.loadAt Instr.sureAddr loadVar
      simp only [pure_bind, Sem.run_bind, run_isAgg hT hd, Result.andThen_ok]
      split at hl
      · rename_i hag
        split at hl
        · rename_i m hm
          split at hl
          · rename_i vs hvs
            simp at hl; obtain ⟨rfl, rfl⟩ := hl
            obtain ⟨vs', h1, h2, _⟩ := rd_sound (P := P) h hvs hp
            rw [if_pos hag]
            simp only [Sem.run_bind, run_sz hT hm, Result.andThen_ok, h1, Sem.run_pure]
            exact ⟨_, rfl, h2.agg⟩
          · cases hl
        · cases hl
      · rename_i hag
        rw [if_neg hag]
        split at hl
        · rename_i r hr
          split at hl
          · rename_i u hu
            simp at hl; obtain ⟨rfl, rfl⟩ := hl
            obtain ⟨_, hc, _⟩ := h.ok j r p hr hp
            obtain ⟨v', h1, h2⟩ := hc off u hu
            rw [run_load, h1]
            exact ⟨v', rfl, h2⟩
          · cases hl
        · cases hl
    · cases hl
  · cases hl
end
end Go.Proofs.Ytggkdjhgknghcaa.Am

namespace Go.Proofs.Ytggkdjhgknghcaa.Am

/-- What is known of functions: what a call gives, and which regions it may turn. -/
structure Orc where
  run : FuncId → List Value → St → Option (Value × St)
  foot : FuncId → List Value → St → List Nat
  /-- The regions that a call looks at, if it writes none. -/
  reads : FuncId → List Value → Option (List Nat)

structure OrcOk (P : Program) (O : Orc) : Prop where
  calls : ∀ f args st res st', O.run f args st = some (res, st') → AC P f args st res st'
  body : ∀ f args st res st', O.run f args st = some (res, st') → ∃ fn, P.funcs[f]? = some fn ∧ (fn.name == "runtime.NumGoroutine") = false ∧ fn.body.isNone = false
  keep : ∀ f args st res st', O.run f args st = some (res, st') → ∀ r, r < st.length → r ∉ O.foot f args st → st'[r]? = st[r]?
  reads : ∀ f args st res st' rs, O.run f args st = some (res, st') → O.reads f args = some rs → st'.length = st.length → st' = st ∧ ∀ s2 : St, (∀ r ∈ rs, s2[r]? = st[r]?) → O.run f args s2 = some (res, s2)

def bytesOf (s : ByteArray) : List Value := s.data.toList.map fun b => .int .u8 b.toNat

/-- The cells of what is appended. -/
def source (st : St) (size : Nat) : Value → Option (Nat × List Value)
  | .slice a n _ => match sbase a with
    | some (j, off) => match rd st j off (n * size) with
      | some vs => some (n, vs)
      | none => none
    | none => if n = 0 then some (0, []) else none
  | .string s => if size = 1 then some (s.size, bytesOf s) else none
  | _ => none

/-- Append, when the types are known: an element takes 'size' cells, 'bytes' bytes; z: its zero. -/
def appendCore (st : St) (size bytes : Nat) (z : Value) (s : Value) : Option (Nat × List Value) → Option (Value × St × List Nat)
  | some (n, new) => if size = 0 ∨ bytes = 0 ∨ z.cells.size ≠ size ∨ new.all oneC = false then none else
        match s with
        | .slice none 0 0 =>
          if n * bytes ≤ 140737488355328 then some (.slice (some ⟨st.length, 0, some 1⟩) n n, st ++ [some ⟨new, .row size⟩], []) else none
        | .slice (some ⟨i, 0, some 1⟩) len _ => match st[i]? with
          | some (some r) => if r.kind = .row size ∧ r.cells.length = len * size ∧ (len + n) * bytes ≤ 140737488355328 then
              some (.slice (some ⟨st.length, 0, some 1⟩) (len + n) (len + n), st.set i none ++ [some ⟨r.cells ++ new, .row size⟩], [i]) else none
          | _ => none
        | _ => none
  | none => none

/-- So many noughts. -/
def zsource (z : Value) (l : Int) : Option (Nat × List Value) :=
  match z.cells.toList with
  | [z0] => if plain0 z0 = true ∧ 0 ≤ l ∧ l ≤ 140737488355328 then some (l.toNat, List.replicate l.toNat z0) else none
  | _ => none
def aappend (T : Tab) (st : St) (sT xT : TypeId) (s x : Value) : Option (Value × St × List Nat) :=
  match T.und sT, T.und xT with
  | some (.slice e), some d => match d with
    | .int _ => match T.sz e, T.byt e, T.zero e, x with
      | some 1, some bytes, some z, .int .i64 l => appendCore st 1 bytes z s (zsource z l)
      | _, _, _, _ => none
    | _ => match T.sz e, T.byt e, T.zero e with
      | some size, some bytes, some z => appendCore st size bytes z s (source st size x)
      | _, _, _ => none
  | _, _ => none

def acopy (T : Tab) (st : St) (dT : TypeId) (d s : Value) : Option (Value × St × List Nat) :=
  match T.und dT with
  | some (.slice e) => match T.sz e with
    | some size => match d, s with
      | .slice a dLen _, .slice b sLen _ => match sbase a with
        | some (i, off) => match sbase b with
          | some (j, o) => match rd st j o (Nat.min sLen dLen * size) with
            | some vs => match wr st i off vs with
              | some st' => some (.int .i64 (Nat.min sLen dLen : Nat), st', [i])
              | none => none
            | none => none
          | none => if sLen = 0 then some (.int .i64 0, st, []) else none
        | none => if dLen = 0 then some (.int .i64 0, st, []) else none
      | _, _ => none
    | none => none
  | _ => none

def aclear (T : Tab) (st : St) (t : TypeId) (x : Value) : Option (Value × St × List Nat) :=
  match T.und t, x with
  | some (.slice e), .slice a n _ => match T.zero e with
    | some z => match z.cells.toList with
      | [z0] => if plain0 z0 then match sbase a with
        | some (i, off) => match wr st i off (List.replicate n z0) with
          | some st' => some (.tuple #[], st', [i])
          | none => none
        | none => if n = 0 then some (.tuple #[], st, []) else none else none
      | _ => none
    | none => none
  | _, _ => none

/-- Make, when the types are known: z0 is an element's zero (of one cell), b its bytes. -/
def makeCore (st : St) (b : Nat) (z0 : Value) (l c : Int) : Option (Value × St × List Nat) :=
  if plain0 z0 = true ∧ b ≠ 0 ∧ 0 ≤ l ∧ l ≤ c ∧ b * c ≤ 281474976710656 then
    some (.slice (some ⟨st.length, 0, some 1⟩) l.toNat c.toNat, st ++ [some ⟨List.replicate l.toNat z0, .row 1⟩], []) else none
def amake (T : Tab) (st : St) (t : TypeId) (l c : Value) : Option (Value × St × List Nat) :=
  match T.und t, l, c with
  | some (.slice e), .int _ l, .int _ c => match T.sz e, T.byt e, T.zero e with
    | some 1, some b, some z => match z.cells.toList with
      | [z0] => makeCore st b z0 l c
      | _ => none
    | _, _, _ => none
  | _, _, _ => none
def storeCore (st : St) (i off : Nat) (vs : List Value) : Option (Value × St × List Nat) :=
  match wr st i off vs with
  | some st' => some (undef, st', [i])
  | none => none

def zbase (m : Nat) (z : Value) : Array Value := if m = 0 then #[] else z.cells
def zrow (m : Nat) (z : Value) : Array Value := (Array.range m).map ((zbase m z)[· % (zbase m z).size]!)

def abuildSlice (T : Tab) (st : St) (t : TypeId) (len : Nat) (ps : List (Nat × Value)) : Option (Value × St × List Nat) :=
  match T.und t with
  | some (.slice e) => match T.sz e, T.zero e with
    | some size, some z => if size = 0 ∨ len * size > 16777216 then none else
      if (zrow (len * size) z).toList.all plain0 then match Instr.fill (fun i => some (i * size, size)) (zrow (len * size) z) ps with
        | some out => if out.toList.length = len * size then some (.slice (some ⟨st.length, 0, some 1⟩) len len, st ++ [some ⟨out.toList, .row size⟩], []) else none
        | none => none else none
    | _, _ => none
  | _ => none

def abytes (T : Tab) (st : St) (src dst : TypeId) (x : Value) : Option (Value × St × List Nat) :=
  match T.und src, T.und dst, x with
  | some _, some (.slice e), .string s => match T.und e with
    | some (.int .u8) => some (.slice (some ⟨st.length, 0, none⟩) s.size s.size, st ++ [some ⟨bytesOf s, .rw⟩], [])
    | _ => none
  | some (.slice _), some (.slice e), .slice (some ⟨i, 0, some 1⟩) len c => match T.und e, st[i]? with
    | some (.int .u8), some (some r) => if src = dst ∧ r.kind = .row 1 ∧ r.cells.length = len ∧ len ≠ 0 then some (.slice (some ⟨st.length, 0, none⟩) len c, st.set i none ++ [some ⟨r.cells, .rw⟩], [i]) else none
    | _, _ => none
  | _, _, _ => none

def acall (O : Orc) (st : St) (f : Value) (args : List Value) : Option (Value × St × List Nat) :=
  match f with
  | .func (.func g) first captured => match O.run g (first.toList ++ args ++ captured.toList) st with
    | some (v, st') => some (v, st', O.foot g (first.toList ++ args ++ captured.toList) st)
    | none => none
  | _ => none

def aeff (T : Tab) (O : Orc) (st : St) (ρ : Operand → Option Value) : Op → Option (Value × St × List Nat)
  | .alloc e => match T.zero e with
    | some z => if plain z then some (.pointer (some ⟨st.length, 0, none⟩), st ++ [some ⟨z.cells.toList, .rw⟩], []) else none
    | none => none
  | .box _ x => match ρ x with
    | some v => some (.pointer (some ⟨st.length, 0, none⟩), st ++ [some ⟨v.cells.toList, .rw⟩], [])
    | none => none
  | .store t a x => match ρ a, ρ x, T.sz t with
    | some (.pointer (some ⟨i, off, none⟩)), some v, some n => if v.cells.size = n then storeCore st i off v.cells.toList else none
    | _, _, _ => none
  | .buildSlice t len ps => match partsO ρ ps.toList with
    | some vs => abuildSlice T st t len vs
    | none => none
  | .makeSlice t l c => match ρ l, ρ c with
    | some l, some c => amake T st t l c
    | _, _ => none
  | .convert src dst x => match ρ x with
    | some v => abytes T st src dst v
    | none => none
  | .call ⟨.builtin .append, args, ts⟩ => match args.toList, ts.toList with
    | [s, x], [sT, xT] => match ρ s, ρ x with
      | some s, some x => aappend T st sT xT s x
      | _, _ => none
    | _, _ => none
  | .call ⟨.builtin .copy, args, ts⟩ => match args.toList, ts.toList with
    | [d, s], [dT, _] => match ρ d, ρ s with
      | some d, some s => acopy T st dT d s
      | _, _ => none
    | _, _ => none
  | .call ⟨.builtin .clear, args, ts⟩ => match args.toList, ts.toList with
    | [x], [t] => match ρ x with
      | some x => aclear T st t x
      | none => none
    | _, _ => none
  | .call ⟨.value f, args, _⟩ => match ρ f, mapO ρ args.toList with
    | some f, some vs => acall O st f vs
    | _, _ => none
  | _ => none

end Go.Proofs.Ytggkdjhgknghcaa.Am

namespace Go.Proofs.Ytggkdjhgknghcaa.Am
section
variable {P : Program} {T : Tab} (hT : TabOk P T) {n b : Nat} {T0 : Nat → Nat → Prop} {w0 : World} {μ : List Place}

def Does (P : Program) (n b : Nat) (T0 : Nat → Nat → Prop) (w0 : World) (μ : List Place) (w : World) (s : Sem Value) (v : Value) (st' : St) : Prop :=
  ∃ μ' r w', s.run P w = .ok r w' ∧ Ext μ μ' ∧ VR μ' v r ∧ R n b T0 w0 μ' st' w'

theorem newRow_run (e : TypeId) (cs : Array Value) (w : World) : (newRow e cs).run P w = .ok ⟨w.heap.size, 0, none⟩ (allocW w (.cells cs e)) := rfl

theorem VRs.arr {xs : List Value} {ys : Array Value} (h : VRs μ xs ys.toList) : xs.length = ys.size ∧ ∀ (i : Nat) x y, xs[i]? = some x → ys[i]? = some y → VR μ x y :=
  ⟨by simpa using h.1, fun i x y hx hy => h.2 i x y hx (by simpa using hy)⟩

theorem ptr_new {st : St} (hl : μ.length = st.length) (p : Place) : (μ ++ [p])[st.length]? = some p := by rw [← hl]; simp

theorem newVar_does {st : St} {w : World} (h : R n b T0 w0 μ st w) {t : TypeId} {v v' : Value} (hv : VRs μ v.cells.toList v'.cells.toList) :
    Does P n b T0 w0 μ w (do pure (.pointer (some (← newVar t v')))) (.pointer (some ⟨st.length, 0, none⟩)) (st ++ [some ⟨v.cells.toList, .rw⟩]) := by
  have ha := hv.arr
  refine ⟨_, .pointer (some ⟨w.heap.size, 0, none⟩), _, by simp only [newVar, Sem.run_bind, newRow_run, Result.andThen_ok, Sem.run_pure], Ext.append _ _, ?_, h.alloc (t := t) (ys := v'.cells) (kind := .rw) (by simp) (.inl ⟨rfl, rfl⟩) (by omega) ha.2 (0, 0) ⟨by simp, by simp⟩⟩
  have := VR.ptr (μ := μ ++ [⟨w.heap.size, 0, v'.cells.size, 0⟩]) st.length 0 _ (ptr_new h.good.len _)
  simpa using this

include hT in
theorem alloc_does {st : St} {w : World} (h : R n b T0 w0 μ st w) {e : TypeId} {z : Value} (hz : T.zero e = some z) (hp : plain z = true) :
    Does P n b T0 w0 μ w (Instr.alloc e true (.tuple #[])) (.pointer (some ⟨st.length, 0, none⟩)) (st ++ [some ⟨z.cells.toList, .rw⟩]) := by
  obtain ⟨μ', r, w', h1, h2⟩ := newVar_does (P := P) h (t := e) (v := z) (v' := z) (cells_plain hp)
  refine ⟨μ', r, w', ?_, h2⟩
  unfold Instr.alloc
  simp only [Sem.run_bind, run_zero hT hz, Result.andThen_ok]
  simpa [Sem.run_bind] using h1

include hT in
theorem store_does {st st' : St} {w : World} (h : R n b T0 w0 μ st w) {t : TypeId} {i off m : Nat} {v a' v' : Value} (ha : VR μ (.pointer (some ⟨i, off, none⟩)) a') (hv : VR μ v v')
    (hs : T.sz t = some m) (hm : v.cells.size = m) (hw : wr st i off v.cells.toList = some st') :
    ∃ w', (Instr.storeAt t a' v').run P w = .ok () w' ∧ R n b T0 w0 μ st' w' := by
  obtain ⟨p, hp, rfl⟩ := ha.ptr_inv
  have hc := hv.cells
  obtain ⟨w', h1, h2⟩ := wr_sound (P := P) h hw hp hc
  refine ⟨w', ?_, h2⟩
  have hsz : v'.cells.size = m := by have := hc.1; simp at this; omega
  unfold Instr.storeAt Instr.sureAddr storeVar
  simp only [pure_bind, Sem.run_bind, run_sz hT hs, Result.andThen_ok]
  rw [Sem.run_ite, if_neg (by omega)]
  exact h1

theorem fill_size {place : Nat → Option (Nat × Nat)} : ∀ {vs : List (Nat × Value)} {cs out : Array Value}, Instr.fill place cs vs = some out → out.size = cs.size := by
  intro vs
  induction vs with
  | nil => intro cs out h; simp [Instr.fill] at h; rw [h]
  | cons p r ih =>
    intro cs out h
    obtain ⟨i, v⟩ := p
    simp only [Instr.fill] at h
    split at h
    · cases h
    split at h
    · cases h
    rw [ih h]
    have : ∀ (l : List (Value × Nat)) (off : Nat) (cs : Array Value), (l.foldl (fun cs (c, j) => cs.setIfInBounds (off + j) c) cs).size = cs.size := by
      intro l
      induction l with
      | nil => intro off cs; rfl
      | cons a l ih2 => intro off cs; rw [List.foldl_cons, ih2]; simp
    rw [← Array.foldl_toList, this]

include hT in
theorem buildSlice_does {st st' : St} {w : World} (h : R n b T0 w0 μ st w) {t : TypeId} {len : Nat} {ps : List (Nat × Value)} {ps' : Array (Nat × Value)} {v : Value} {foot : List Nat}
    (hb : abuildSlice T st t len ps = some (v, st', foot)) (hp : PR μ ps ps'.toList) : Does P n b T0 w0 μ w (Instr.buildSlice t len ps') v st' := by
  unfold abuildSlice at hb
  split at hb
  · rename_i e hu
    split at hb
    · rename_i size z hs hz
      split at hb
      · cases hb
      rename_i hlim
      split at hb
      · rename_i hpl
        split at hb
        · rename_i out hout
          split at hb
          · rename_i hol
            simp at hb; obtain ⟨rfl, rfl, rfl⟩ := hb
            obtain ⟨out', ho, hv⟩ := fill_sound hout hp (VRs.plain0 (μ := μ) hpl)
            have hva := hv.arr
            have ho1 : Instr.fill (fun i => some (i * size, size)) ((Array.range (len * size)).map ((zbase (len * size) z)[· % (zbase (len * size) z).size]!)) ps'.toList = some out' := ho
            refine ⟨_, .slice (some ⟨w.heap.size, 0, none⟩) len len, _, ?_, Ext.append _ _, ?_, h.alloc (t := e) (ys := out') (kind := .row size) (esz := size) (by simp) (.inr ⟨rfl, by omega⟩) (by omega) hva.2 (0, 0) ⟨by simp, by simp⟩⟩
            · unfold Instr.buildSlice
              simp only [Sem.run_bind, run_und hT hu, Result.andThen_ok, run_sz hT hs]
              rw [if_neg (by omega)]
              by_cases hn : len * size = 0
              · have hzb : zbase (len * size) z = #[] := by simp [zbase, hn]
                rw [hzb] at ho1
                rw [if_pos hn]
                simp only [Sem.run_bind, Sem.run_pure, Result.andThen_ok, ho1, newRow_run]
              · have hzb : zbase (len * size) z = z.cells := by simp [zbase, hn]
                rw [hzb] at ho1
                rw [if_neg hn]
                simp only [Sem.run_bind, Sem.run_pure, Result.andThen_ok, run_zero hT hz, ho1, newRow_run]
            · exact .row _ _ _ _ _ (ptr_new h.good.len _) (Nat.le_refl _) rfl (by simp only; omega) (by simp only; omega)
          · cases hb
        · cases hb
      · cases hb
    · cases hb
  · cases hb

include hT in
theorem make_does {st st' : St} {w : World} (h : R n b T0 w0 μ st w) {t : TypeId} {l c l' c' v : Value} {foot : List Nat} (hm : amake T st t l c = some (v, st', foot)) (hl : VR μ l l') (hc : VR μ c c') :
    Does P n b T0 w0 μ w (Instr.makeSlice t l' c') v st' := by
  unfold amake at hm
  simp only [makeCore] at hm
  split at hm
  · rename_i e kl l kc c hu
    cases hl; cases hc
    split at hm
    · rename_i b z hs hb hz
      split at hm
      · rename_i z0 hz0
        split at hm
        · rename_i hcond
          obtain ⟨hp0, hb0, hl0, hlc, hbc⟩ := hcond
          simp at hm; obtain ⟨rfl, rfl, rfl⟩ := hm
          obtain ⟨i, hi, hib⟩ := hT.byt e b hb
          have hzc : z.cells = #[z0] := by apply Array.ext'; simpa using hz0
          have hcb : c ≤ 281474976710656 := by
            have : c ≤ b * c := by
              have : (1 : Int) ≤ b := by omega
              have := Int.mul_le_mul_of_nonneg_right this (show 0 ≤ c by omega)
              simpa using this
            omega
          have wrapId : ∀ x : Int, 0 ≤ x → x ≤ 281474976710656 → IntKind.i64.wrap x = x := by
            intro x h0 h1
            exact IntWalk.i64_in x (by omega)
          have wl := wrapId l hl0 (by omega)
          have wc := wrapId c (by omega) hcb
          have hcells : ((Array.range (c.toNat * 1)).map (fun x => (zbase (c.toNat * 1) z)[x % (zbase (c.toNat * 1) z).size]!)) = Array.replicate c.toNat z0 := by
            unfold zbase
            apply Array.ext'
            simp only [Nat.mul_one, Array.toList_map, Array.toList_range, Array.toList_replicate]
            apply List.ext_getElem?
            intro j
            by_cases hj : j < c.toNat
            · rw [List.getElem?_map, List.getElem?_range hj, List.getElem?_replicate, if_pos hj, if_neg (by omega), hzc]
              simp [Nat.mod_one]
            · rw [List.getElem?_eq_none (by simp; omega), List.getElem?_eq_none (by simp; omega)]
          refine ⟨_, .slice (some ⟨w.heap.size, 0, none⟩) l.toNat c.toNat, _, ?_, Ext.append _ _, ?_, h.alloc (t := e) (xs := List.replicate l.toNat z0) (ys := Array.replicate c.toNat z0) (kind := .row 1) (esz := 1) (by simp) (.inr ⟨rfl, by omega⟩) (by simp; omega) ?_ (0, 0) ⟨by simp, by simp⟩⟩
          · unfold Instr.makeSlice
            simp only [Sem.run_bind, run_und hT hu, Result.andThen_ok, asInt, asIntOf, pure_bind, Sem.run_pure, typeInfo, run_program, hi, wl, wc, hib]
            rw [if_neg (by simp; omega)]
            simp only [Sem.run_bind, run_askRoom, Result.andThen_ok, run_sz hT hs]
            by_cases hn : c.toNat * 1 = 0
            · have hzb : zbase (c.toNat * 1) z = #[] := by simp only [zbase]; rw [if_pos hn]
              rw [hzb] at hcells
              rw [if_pos hn]
              simp only [Sem.run_bind, Sem.run_pure, Result.andThen_ok, hcells, newRow_run]
            · have hzb : zbase (c.toNat * 1) z = z.cells := by simp only [zbase]; rw [if_neg hn]
              rw [hzb] at hcells
              rw [if_neg hn]
              simp only [Sem.run_bind, Sem.run_pure, Result.andThen_ok, run_zero hT hz, hcells, newRow_run]
          · exact .row _ _ _ _ _ (ptr_new h.good.len _) (Nat.le_refl _) rfl (by simp) (by simp)
          · intro j x y hx hy
            have e1 := List.mem_of_getElem? hx
            have e2 := Array.mem_of_getElem? hy
            simp at e1 e2
            rw [e1.2, e2.2]
            exact .plain0 hp0
        · cases hm
      · cases hm
    · cases hm
  · cases hm

theorem bytes_plain (s : ByteArray) : VRs μ (bytesOf s) (bytesOf s) := VRs.plain0 (List.all_eq_true.2 fun x hx => by
  obtain ⟨b, _, rfl⟩ := List.mem_map.1 hx
  rfl)

/-- A row whose end is marked: none may be appended to it any more. -/
theorem R.stringish {n b : Nat} {T0 : Nat → Nat → Prop} {w0 : World} {μ : List Place} {st : St} {w : World} (h : R n b T0 w0 μ st w) {i : Nat} {r : Reg} {p : Place} (hi : st[i]? = some (some r)) (hp : μ[i]? = some p) (hrow : r.kind = .row 1) (hne : r.cells.length ≠ 0) :
    ∃ cs t, w.heap[p.block]? = some (.cells cs t (0, 0)) ∧ R n b T0 w0 (μ ++ [p]) (st.set i none ++ [some ⟨r.cells, .rw⟩]) (w.freeze ⟨p.block, cs.size, none⟩ 1) := by
  have hM := h.move hi hp hrow
  obtain ⟨ok1, ok2, ok3⟩ := h.good.ok i r p hi hp
  rw [hrow] at ok3
  obtain ⟨hoff, hesz, _, hle, hx⟩ := ok3
  rcases hx with hx | ⟨cs, t, hh, hsz⟩
  · omega
  refine ⟨cs, t, hh, ?_⟩
  have hlen := h.good.len
  have hblk : p.block < w.heap.size := by
    apply Decidable.byContradiction
    intro hge
    rw [Array.getElem?_eq_none (by omega)] at hh; cases hh
  have hfz : ∀ bl, bl ≠ p.block → (w.freeze ⟨p.block, cs.size, none⟩ 1).heap[bl]? = w.heap[bl]? := by
    intro bl hne'
    unfold World.freeze
    simp only [Nat.reduceEqDiff, if_false]
    rw [Array.getElem?_modify, if_neg (fun e => hne' e.symm)]
  have hfp : (w.freeze ⟨p.block, cs.size, none⟩ 1).heap[p.block]? = some (.cells cs t (cs.size, cs.size + 1)) := by
    unfold World.freeze
    simp only [Nat.reduceEqDiff, if_false]
    rw [Array.getElem?_modify, if_pos rfl, hh]; rfl
  have hhs : (w.freeze ⟨p.block, cs.size, none⟩ 1).heap.size = w.heap.size := by
    unfold World.freeze
    simp only [Nat.reduceEqDiff, if_false]
    rw [Array.size_modify]
  have hcell : ∀ bl k, (w.freeze ⟨p.block, cs.size, none⟩ 1).cell? ⟨bl, k, none⟩ = w.cell? ⟨bl, k, none⟩ := by
    intro bl k
    by_cases e : bl = p.block
    · subst e; rw [cell_of hfp, cell_of hh]
    · simp only [World.cell?, hfz bl e]
  have hfroz : ∀ bl k, bl ≠ p.block → (w.freeze ⟨p.block, cs.size, none⟩ 1).frozen? ⟨bl, k, none⟩ = w.frozen? ⟨bl, k, none⟩ := by
    intro bl k e
    simp only [World.frozen?, hfz bl e]
  have key : ∀ {j : Nat} {q : Reg}, (st.set i none ++ [some (⟨r.cells, .rw⟩ : Reg)])[j]? = some (some q) → (j = st.length ∧ q = ⟨r.cells, .rw⟩) ∨ (j < st.length ∧ j ≠ i ∧ st[j]? = some (some q)) := by
    intro j q hj
    rcases getElem?_snoc_reg hj with ⟨e, e'⟩ | ⟨hl, hj'⟩
    · exact .inl ⟨by simpa using e, e'.symm⟩
    · rcases getElem?_set_reg hj' with ⟨_, he, _⟩ | ⟨hne, hj''⟩
      · cases he
      · exact .inr ⟨by simpa using hl, hne, hj''⟩
  have old : ∀ {j : Nat} {q}, (μ ++ [p])[j]? = some q → j < st.length → μ[j]? = some q := by
    intro j q hq hj
    rw [List.getElem?_append_left (by omega)] at hq; exact hq
  have new : ∀ {q}, (μ ++ [p])[st.length]? = some q → q = p := by
    intro q hq
    rw [← hlen] at hq; simp at hq; exact hq.symm
  -- what lies in the row's block is the row's
  have alone : ∀ {j : Nat} {q : Reg} {pq : Place} {k : Nat}, j ≠ i → st[j]? = some (some q) → μ[j]? = some pq → inside pq q p.block k → ¬ k < p.lim := by
    intro j q pq k hji hj hpq hin hk
    exact h.good.sep i j r q p pq (fun e => hji e.symm) hi hj hp hpq p.block k ⟨by rw [hrow]; simp, rfl, .inl ⟨⟨1, hrow⟩, hk⟩⟩ hin
  have cvr : ∀ {bl k : Nat}, covers p ⟨r.cells, .rw⟩ bl k → covers p r bl k := by
    rintro bl k ⟨-, h2, h3⟩
    refine ⟨by rw [hrow]; simp, h2, ?_⟩
    rcases h3 with ⟨⟨e, he⟩, _⟩ | h3
    · cases he
    · exact .inr h3
  have ins : ∀ {bl k : Nat}, inside p ⟨r.cells, .rw⟩ bl k → inside p r bl k := by
    rintro bl k ⟨h2, h3⟩
    refine ⟨h2, ?_⟩
    rcases h3 with ⟨⟨e, he⟩, _⟩ | h3
    · cases he
    · exact .inr h3
  refine ⟨⟨by simp [hlen], ?_, ?_⟩, ?_, ?_, h.le, ?_, by have := h.prot.1; simp; omega, fun j q e2 hj hq => ?_⟩
  rotate_right
  · have := h.prot.1
    rcases key hq with ⟨rfl, _⟩ | ⟨_, _, hj'⟩
    · omega
    · exact h.prot.2 j q e2 hj hj'
  · intro j q pq hj hpq
    rcases key hj with ⟨rfl, rfl⟩ | ⟨hl, hji, hj'⟩
    · cases new hpq
      refine ⟨fun bl k hin => by rw [hhs]; exact ok1 bl k (ins hin), fun k v hv => ?_, fun k hk => ?_⟩
      · obtain ⟨v', h1, h2⟩ := ok2 k v hv
        exact ⟨v', by rw [hcell]; exact h1, h2.mono (Ext.append _ _)⟩
      · simp only at hk
        simp only [World.frozen?, hfp, hoff]
        simp
        omega
    · have hpq' := old hpq hl
      obtain ⟨a1, a2, a3⟩ := h.good.ok j q pq hj' hpq'
      refine ⟨fun bl k hin => by rw [hhs]; exact a1 bl k hin, fun k v hv => ?_, ?_⟩
      · obtain ⟨v', h1, h2⟩ := a2 k v hv
        exact ⟨v', by rw [hcell]; exact h1, h2.mono (Ext.append _ _)⟩
      · cases hk : q.kind with
        | ro => trivial
        | rw =>
          rw [hk] at a3
          intro k hkl
          by_cases e : pq.block = p.block
          · exfalso
            have hv : q.cells[k]? = some q.cells[k] := List.getElem?_eq_getElem hkl
            obtain ⟨v', h1, _⟩ := a2 k _ hv
            rw [e, cell_of hh] at h1
            have := (Array.getElem?_eq_some_iff.1 h1).1
            exact alone (k := pq.off + k) hji hj' hpq' ⟨e, .inr ⟨by omega, by omega⟩⟩ (by omega)
          · rw [hfroz _ _ e]; exact a3 k hkl
        | row e3 =>
          rw [hk] at a3
          obtain ⟨c1, c2, c3, c4, c5⟩ := a3
          refine ⟨c1, c2, c3, c4, ?_⟩
          rcases c5 with c5 | ⟨cs', t', c5, c6⟩
          · exact .inl c5
          · by_cases h0 : pq.lim = 0
            · exact .inl h0
            · have e : pq.block ≠ p.block := fun e => alone hji hj' hpq' ⟨e, .inl ⟨⟨e3, hk⟩, show 0 < pq.lim by omega⟩⟩ (by omega)
              exact .inr ⟨cs', t', by rw [hfz _ e]; exact c5, c6⟩
  · intro a c ra rc pa pc hac ha hc hpa hpc bl k hcv hin
    rcases key ha with ⟨rfl, rfl⟩ | ⟨hla, hnea, ha'⟩
    · rcases key hc with ⟨rfl, _⟩ | ⟨hlc, hnec, hc'⟩
      · exact hac rfl
      · cases new hpa
        exact h.good.sep i c r rc p pc (fun e => hnec e.symm) hi hc' hp (old hpc hlc) bl k (cvr hcv) hin
    · rcases key hc with ⟨rfl, rfl⟩ | ⟨hlc, hnec, hc'⟩
      · cases new hpc
        exact h.good.sep a i ra r pa p hnea ha' hi (old hpa hla) hp bl k hcv (ins hin)
      · exact h.good.sep a c ra rc pa pc hac ha' hc' (old hpa hla) (old hpc hlc) bl k hcv hin
  · rintro bl k ⟨a, ra, pa, ha, hpa, hcv⟩
    rcases key ha with ⟨rfl, rfl⟩ | ⟨hla, hnea, ha'⟩
    · cases new hpa; exact h.own bl k ⟨i, r, p, hi, hp, cvr hcv⟩
    · exact h.own bl k ⟨a, ra, pa, ha', old hpa hla, hcv⟩
  · have hnb : n ≤ p.block := h.news i r p hi hp (.inr ⟨1, hrow⟩)
    refine h.frame.trans (n' := n) (T' := T0) ?_ (Nat.le_refl _) (fun _ _ _ h => h)
    refine ⟨rfl, rfl, rfl, by rw [hhs]; exact Nat.le_refl _, ?_, ?_⟩
    · intro bl cs2 t2 fr hb hcs
      exact ⟨cs2, by rw [hfz _ (by omega)]; exact hcs, rfl, fun _ _ => rfl⟩
    · intro bl o hb ho _
      rw [hfz _ (by omega)]; exact ho
  · intro j q pq hj hpq hb
    rcases key hj with ⟨rfl, rfl⟩ | ⟨hl, _, hj'⟩
    · cases new hpq; exact h.news i r p hi hp (.inr ⟨1, hrow⟩)
    · exact h.news j q pq hj' (old hpq hl) hb

include hT in
theorem bytes_does {st st' : St} {w : World} (h : R n b T0 w0 μ st w) {src dst : TypeId} {x x' v : Value} {foot : List Nat} (hm : abytes T st src dst x = some (v, st', foot)) (hx : VR μ x x') :
    Does P n b T0 w0 μ w (convert src dst x') v st' := by
  unfold abytes at hm
  split at hm
  · rename_i d e s h1 h2
    cases hx
    split at hm
    · rename_i h3
      simp at hm; obtain ⟨rfl, rfl, rfl⟩ := hm
      have hq : ∃ cap, s.size ≤ cap ∧ (choose (.appendCap s.size 0 e)).run P w = .ok cap { w with drawn := w.drawn + 1 } :=
        ⟨(Question.appendCap s.size 0 e).cut (w.tape w.drawn (.appendCap s.size 0 e)), Nat.le_add_right _ _, by rw [run_choose]; rfl⟩
      obtain ⟨cap, hcap, hch⟩ := hq
      generalize hw1 : ({ w with drawn := w.drawn + 1 } : World) = w1 at hch
      have hR1 : R n b T0 w0 μ st w1 := by subst hw1; exact h.drew rfl rfl rfl rfl
      have hsz : s.size = s.data.size := rfl
      have hbl : (bytesOf s).length = s.size := by unfold bytesOf; rw [List.length_map, Array.length_toList, hsz]
      generalize hys : (s.data.map fun b => Value.int .u8 b.toNat) ++ Array.replicate (cap - s.size) (.int .u8 0) = ys
      have hysz : ys.size = cap := by rw [← hys, Array.size_append, Array.size_map, Array.size_replicate, ← hsz]; omega
      have hyg : ∀ (i : Nat) x y, (bytesOf s)[i]? = some x → ys[i]? = some y → VR μ x y := by
        intro i x y hx hy
        have hi : i < s.size := by have := (List.getElem?_eq_some_iff.1 hx).1; rw [hbl] at this; exact this
        rw [← hys, Array.getElem?_append_left (by rw [Array.size_map, ← hsz]; exact hi)] at hy
        have hx' : (s.data.map fun b => Value.int .u8 b.toNat)[i]? = some x := by
          rw [← Array.getElem?_toList]; simpa [bytesOf] using hx
        rw [hx'] at hy; cases hy
        exact (bytes_plain s).2 i x x hx hx
      have hR2 := hR1.alloc (t := e) (xs := bytesOf s) (ys := ys) (kind := .rw) (esz := 0) (by simp) (.inl ⟨rfl, rfl⟩) (by omega) hyg (ys.size, ys.size + 1) ⟨by intro k hk; omega, by simp⟩
      refine ⟨_, .slice (some ⟨w1.heap.size, 0, none⟩) s.size cap, _, ?_, Ext.append _ _, ?_, hR2⟩
      · unfold convert
        simp only [Sem.run_bind, run_und hT h1, run_und hT h2, Result.andThen_ok, run_und hT h3]
        unfold Conv.stringToBytes
        simp only [Sem.run_bind, hch, Result.andThen_ok, hys, newRow_run, markStringish]
        have hsh : (allocW w1 (.cells ys e)).shape? w1.heap.size = some (e, ys.size) := by
          unfold World.shape? allocW; simp
        simp only [run_shape, hsh, Result.andThen_ok, run_freeze, Sem.run_bind, Sem.run_pure]
        congr 1
        unfold World.freeze allocW
        simp only [Nat.reduceEqDiff, if_false]
        congr 1
        apply Array.ext_getElem?
        intro j
        rw [Array.getElem?_modify, Array.getElem?_push, Array.getElem?_push]
        by_cases hj : w1.heap.size = j
        · rw [if_pos hj, if_pos hj.symm, if_pos hj.symm]; simp
        · rw [if_neg hj, if_neg (fun e => hj e.symm), if_neg (fun e => hj e.symm)]
      · have := VR.slice (μ := μ ++ [⟨w1.heap.size, 0, ys.size, 0⟩]) st.length 0 s.size s.size cap _ (ptr_new h.good.len _) hcap
        simpa using this
    · cases hm
  · rename_i d1 e i len c h1 h2
    split at hm
    · rename_i r h3 hi
      split at hm
      · rename_i hc
        obtain ⟨rfl, hrow, hlen, hne⟩ := hc
        simp at hm; obtain ⟨rfl, rfl, rfl⟩ := hm
        cases hx with
        | row0 => exact absurd rfl hne
        | row _ _ _ c' p hp hcc hoff hesz hlim =>
          obtain ⟨cs, t, hh, hR2⟩ := h.stringish hi hp hrow (by omega)
          refine ⟨_, .slice (some ⟨p.block, 0, none⟩) len c', _, ?_, Ext.append _ _, ?_, hR2⟩
          · have hu : T.und src = some (.slice e) := h2
            have hsh : w.shape? p.block = some (t, cs.size) := by unfold World.shape?; rw [hh]
            unfold convert
            simp only [Sem.run_bind, run_und hT hu, Result.andThen_ok, run_und hT h3, beq_self_eq_true]
            simp only [Sem.run_bind, markStringish, run_shape, hsh, Result.andThen_ok, run_freeze, Sem.run_pure]
          · have := VR.slice (μ := μ ++ [p]) st.length 0 len c c' _ (ptr_new h.good.len _) hcc
            rw [hoff, Nat.zero_add] at this
            exact this
      · cases hm
    · cases hm
  · cases hm

include hT in
theorem clear_does {st st' : St} {w : World} (h : R n b T0 w0 μ st w) {t r : TypeId} {x x' v : Value} {foot : List Nat} (hm : aclear T st t x = some (v, st', foot)) (hx : VR μ x x') :
    Does P n b T0 w0 μ w (Builtin.clear_ #[t] r #[x']) v st' := by
  unfold aclear at hm
  split at hm
  · rename_i e a m c hu
    split at hm
    · rename_i z hz
      split at hm
      · rename_i z0 hz0
        split at hm
        · rename_i hp0
          split at hm
          · rename_i i off hb
            split at hm
            · rename_i st2 hw
              simp at hm; obtain ⟨rfl, rfl, rfl⟩ := hm
              have hzc : z.cells = #[z0] := by apply Array.ext'; simpa using hz0
              have hpl : VRs μ (List.replicate m z0) (List.replicate m z0) := VRs.plain0 (by simp [hp0])
              obtain ⟨p, c', hp, hc, rfl⟩ | ⟨rfl, -, a', c', rfl⟩ := hx.sbase hb
              case inr =>
                refine ⟨μ, .tuple #[], w, ?_, Ext.refl _, .undef, wr_nil h hw⟩
                unfold Builtin.clear_
                cases a' <;> simp [Sem.run_bind, run_und hT hu]
              obtain ⟨w', h1, h2⟩ := wr_sound (P := P) h hw hp hpl
              by_cases hm0 : m = 0
              · subst hm0
                refine ⟨μ, .tuple #[], w, ?_, Ext.refl _, .undef, ?_⟩
                · unfold Builtin.clear_
                  simp [Sem.run_bind, run_und hT hu]
                · simp [storeCells] at h1
                  rw [h1]; exact h2
              · refine ⟨μ, .tuple #[], w', ?_, Ext.refl _, .undef, h2⟩
                unfold Builtin.clear_
                have hzl : (Builtin.zeroCells z.cells m).toList = List.replicate m z0 := by
                  unfold Builtin.zeroCells
                  rw [hzc]
                  simp only [List.size_toArray, List.length_cons, List.length_nil, Nat.zero_add, Nat.mul_one, Array.toList_map, Array.toList_range]
                  apply List.ext_getElem?
                  intro j
                  by_cases hj : j < m
                  · rw [List.getElem?_map, List.getElem?_range hj, List.getElem?_replicate, if_pos hj]
                    simp [Nat.mod_one]
                  · rw [List.getElem?_eq_none (by simp; omega), List.getElem?_eq_none (by simp; omega)]
                cases m with
                | zero => exact absurd rfl hm0
                | succ m =>
                  simp [Sem.run_bind, run_und hT hu, run_zero hT hz, hzl, h1]
            · cases hm
          · rename_i hb
            split at hm
            · rename_i hm0
              simp at hm; obtain ⟨rfl, rfl, rfl⟩ := hm
              subst hm0
              refine ⟨μ, .tuple #[], w, ?_, Ext.refl _, .undef, h⟩
              unfold Builtin.clear_
              cases hx with
              | nils => simp [Sem.run_bind, run_und hT hu]
              | slice => simp [Am.sbase] at hb
              | slice0 => simp [Am.sbase] at hb
              | row0 => simp [Am.sbase] at hb
              | row => simp [Am.sbase] at hb
              | empty a c' => cases a <;> simp [Sem.run_bind, run_und hT hu]
            · cases hm
        · cases hm
      · cases hm
    · cases hm
  · cases hm

end
end Go.Proofs.Ytggkdjhgknghcaa.Am

namespace Go.Proofs.Ytggkdjhgknghcaa.Am
open Go.IntWalk (i64_in)
section
variable {P : Program} {T : Tab} (hT : TabOk P T) {n b : Nat} {T0 : Nat → Nat → Prop} {w0 : World} {μ : List Place}

include hT in
theorem copy_does {st st' : St} {w : World} (h : R n b T0 w0 μ st w) {dT sT r : TypeId} {d s d' s' v : Value} {foot : List Nat} (hm : acopy T st dT d s = some (v, st', foot))
    (hd : VR μ d d') (hs : VR μ s s') : Does P n b T0 w0 μ w (Builtin.copy_ #[dT, sT] r #[d', s']) v st' := by
  unfold acopy at hm
  split at hm
  · rename_i e hu
    split at hm
    · rename_i size hsz
      split at hm
      · rename_i a dLen ca b sLen cb
        split at hm
        · rename_i i off hba
          split at hm
          · rename_i j o hbb
            split at hm
            · rename_i vs hvs
              split at hm
              · rename_i st2 hw
                simp at hm; obtain ⟨rfl, rfl, rfl⟩ := hm
                by_cases hz : Nat.min sLen dLen = 0
                · -- nothing is copied
                  rw [hz, Nat.zero_mul] at hvs
                  obtain rfl := rd_nil hvs
                  refine ⟨μ, .int .i64 (Nat.min sLen dLen : Nat), w, ?_, Ext.refl _, .int _ _, wr_nil h hw⟩
                  have hd' : ∃ a' c', d' = .slice a' dLen c' := by
                    rcases hd.sbase hba with ⟨p, c', _, _, rfl⟩ | ⟨rfl, -, a', c', rfl⟩
                    · exact ⟨_, _, rfl⟩
                    · exact ⟨_, _, rfl⟩
                  have hs' : ∃ a' c', s' = .slice a' sLen c' := by
                    rcases hs.sbase hbb with ⟨p, c', _, _, rfl⟩ | ⟨rfl, -, a', c', rfl⟩
                    · exact ⟨_, _, rfl⟩
                    · exact ⟨_, _, rfl⟩
                  obtain ⟨a1, c1, rfl⟩ := hd'
                  obtain ⟨a2, c2, rfl⟩ := hs'
                  unfold Builtin.copy_
                  simp only [List.getElem?_toArray, List.getElem?_cons_zero, List.getElem?_cons_succ]
                  cases a1 <;> cases a2 <;> simp [Sem.run_bind, run_und hT hu, Builtin.lenOf, run_sz hT hsz, Builtin.firstCells, hz, goInt, loadCells, loadCellsFrom, storeCells]
                obtain ⟨q, c2, hq, _, rfl⟩ | ⟨rfl, -⟩ := hs.sbase hbb
                case inr => exact absurd (by simp [Nat.min_def]) hz
                obtain ⟨p, c', hp, _, rfl⟩ | ⟨rfl, -⟩ := hd.sbase hba
                case inr => exact absurd (by simp [Nat.min_def]) hz
                obtain ⟨vs', h1, h2, _⟩ := rd_sound (P := P) h.good hvs hq
                obtain ⟨w', h3, h4⟩ := wr_sound (P := P) h hw hp h2
                refine ⟨μ, .int .i64 (Nat.min sLen dLen : Nat), w', ?_, Ext.refl _, .int _ _, h4⟩
                unfold Builtin.copy_
                simp only [List.getElem?_toArray, List.getElem?_cons_zero, List.getElem?_cons_succ]
                simp [Sem.run_bind, run_und hT hu, Builtin.lenOf, run_sz hT hsz, Builtin.firstCells, h1, h3, goInt]
              · cases hm
            · cases hm
          · rename_i hbb
            split at hm
            · rename_i hs0
              simp at hm; obtain ⟨rfl, rfl, rfl⟩ := hm
              subst hs0
              refine ⟨μ, .int .i64 0, w, ?_, Ext.refl _, .int _ _, h⟩
              unfold Builtin.copy_
              have hmin : Nat.min 0 dLen = 0 := by simp [Nat.min_def]
              obtain ⟨ad, cd, rfl⟩ : ∃ ad cd, d' = .slice ad dLen cd := by
                rcases hd.sbase hba with ⟨p, c', _, _, rfl⟩ | ⟨rfl, -, a', c', rfl⟩
                · exact ⟨_, _, rfl⟩
                · exact ⟨_, _, rfl⟩
              cases hs with
              | nils => cases ad <;> simp [Sem.run_bind, run_und hT hu, Builtin.lenOf, run_sz hT hsz, Builtin.firstCells, goInt, storeCells, hmin]
              | slice => simp [Am.sbase] at hbb
              | slice0 => simp [Am.sbase] at hbb
              | row0 => simp [Am.sbase] at hbb
              | row => simp [Am.sbase] at hbb
              | empty a c' => cases ad <;> cases a <;> simp [Sem.run_bind, run_und hT hu, Builtin.lenOf, run_sz hT hsz, Builtin.firstCells, goInt, storeCells, hmin, loadCells, loadCellsFrom]
            · cases hm
        · rename_i hba
          split at hm
          · rename_i hd0
            simp at hm; obtain ⟨rfl, rfl, rfl⟩ := hm
            subst hd0
            have hmin : Nat.min sLen 0 = 0 := by simp [Nat.min_def]
            refine ⟨μ, .int .i64 0, w, ?_, Ext.refl _, .int _ _, h⟩
            have key : ∀ a' c', (Builtin.copy_ #[dT, sT] r #[.slice a' 0 c', s']).run P w = .ok (.int .i64 0) w := by
              intro a' c'
              unfold Builtin.copy_
              have hlen : (Builtin.lenOf s').run P w = .ok sLen w := by cases hs <;> rfl
              have hcs : (Builtin.firstCells size 0 s').run P w = .ok #[] w := by
                have ksl : ∀ (a : Option Addr) (l c : Nat), (Builtin.firstCells size 0 (.slice a l c)).run P w = .ok #[] w := by
                  intro a l c
                  cases a <;> (unfold Builtin.firstCells; simp [loadCells, loadCellsFrom])
                cases hs <;> first | rfl | exact ksl _ _ _
              cases a' <;> simp [Sem.run_bind, run_und hT hu, hlen, run_sz hT hsz, hcs, goInt, storeCells, hmin]
            cases hd with
            | nils => exact key none 0
            | slice => simp [Am.sbase] at hba
            | slice0 => simp [Am.sbase] at hba
            | row0 => simp [Am.sbase] at hba
            | row => simp [Am.sbase] at hba
            | empty a c' => exact key a c'
          · cases hm
      · cases hm
    · cases hm
  · cases hm

theorem source_sound {st : St} {w : World} {size k : Nat} {x x' : Value} {new : List Value} (h : Good μ st w) (hs : source st size x = some (k, new)) (hx : VR μ x x') :
    ∃ new', (Builtin.lenOf x').run P w = .ok k w ∧ (Builtin.firstCells size k x').run P w = .ok new'.toArray w ∧ VRs μ new new' ∧ new.length = k * size := by
  unfold source at hs
  split at hs
  · rename_i a m c
    split at hs
    · rename_i j off hb
      split at hs
      · rename_i vs hvs
        simp at hs; obtain ⟨rfl, rfl⟩ := hs
        obtain ⟨p, c', hp, _, rfl⟩ | ⟨rfl, -, a', c', rfl⟩ := hx.sbase hb
        case inr =>
          rw [Nat.zero_mul] at hvs
          obtain rfl := rd_nil hvs
          refine ⟨[], rfl, ?_, .nil, by simp⟩
          cases a' <;> (unfold Builtin.firstCells; simp [loadCells, loadCellsFrom])
        obtain ⟨vs', h1, h2, h3⟩ := rd_sound (P := P) h hvs hp
        exact ⟨vs', rfl, h1, h2, h3⟩
      · cases hs
    · rename_i hb
      split at hs
      · rename_i hm
        simp at hs; obtain ⟨rfl, rfl⟩ := hs
        subst hm
        refine ⟨[], ?_, ?_, .nil, by simp⟩
        · cases hx <;> rfl
        · cases hx with
          | nils => rfl
          | slice => simp [Am.sbase] at hb
          | slice0 => simp [Am.sbase] at hb
          | row0 => simp [Am.sbase] at hb
          | row => simp [Am.sbase] at hb
          | empty a c' => cases a <;> (unfold Builtin.firstCells; simp [loadCells, loadCellsFrom])
      · cases hs
  · rename_i s
    split at hs
    · rename_i h1
      simp at hs; obtain ⟨rfl, rfl⟩ := hs
      subst h1
      cases hx
      refine ⟨bytesOf s, rfl, ?_, bytes_plain s, by unfold bytesOf; rw [List.length_map, Array.length_toList, Nat.mul_one]; rfl⟩
      have : s.extract 0 s.size = s := by
        apply ByteArray.ext
        rw [ByteArray.data_extract]
        show s.data.extract 0 s.data.size = s.data
        simp
      unfold Builtin.firstCells
      simp only [this, Sem.run_pure]
      congr 1
      apply Array.ext'
      simp [bytesOf]
    · cases hs
  · cases hs

theorem growBy_le : ∀ (m a c : Nat), 256 ≤ c → c < a → Builtin.growBy a m c ≤ 2 * a := by
  intro m
  induction m with
  | zero => intro a c h1 h2; simp [Builtin.growBy]; omega
  | succ m ih =>
    intro a c h1 h2
    simp only [Builtin.growBy]
    split
    · omega
    · by_cases h3 : c + (c + 768) / 4 < a
      · exact ih a _ (by omega) h3
      · cases m with
        | zero => simp [Builtin.growBy]; omega
        | succ m => simp only [Builtin.growBy]; rw [if_pos (by omega)]; omega
theorem nextcap_le (need cap : Nat) (h : cap < need) : Builtin.nextslicecap need cap ≤ 2 * need := by
  unfold Builtin.nextslicecap
  split
  · omega
  · split
    · omega
    · exact growBy_le 4 need cap (by omega) h

theorem zsource_spec {z : Value} {l : Int} {k : Nat} {new : List Value} (h : zsource z l = some (k, new)) : ∃ z0, z.cells = #[z0] ∧ plain0 z0 = true ∧ 0 ≤ l ∧ l ≤ 140737488355328 ∧ k = l.toNat ∧ new = List.replicate l.toNat z0 := by
  unfold zsource at h
  split at h
  · rename_i z0 hz
    split at h
    · rename_i hc
      simp at h
      exact ⟨z0, by rw [← Array.toList_inj, hz], hc.1, hc.2.1, hc.2.2, h.1.symm, h.2.symm⟩
    · cases h
  · cases h
theorem zeroCells_one {z : Array Value} {z0 : Value} (hz : z = #[z0]) (n : Nat) : Builtin.zeroCells z n = (List.replicate n z0).toArray := by
  subst hz
  apply Array.ext'
  have e : ∀ i, (#[z0] : Array Value)[i % 1]! = z0 := by intro i; rw [Nat.mod_one]; rfl
  simp only [Builtin.zeroCells, List.size_toArray, List.length_cons, List.length_nil, Nat.zero_add, Nat.mul_one, e, Array.toList_map, Array.toList_range]
  rw [List.map_const', List.length_range]
include hT in
theorem appZ_room {w w' : World} {sT xT r e : TypeId} {kk : IntKind} {bytes : Nat} {z : Value} {z0 : Value} {l : Int} {a' : Option Addr} {len cap : Nat} (hu : T.und sT = some (.slice e)) (hux : T.und xT = some (.int kk))
    (hsz : T.sz e = some 1) (hby : T.byt e = some bytes) (hz : T.zero e = some z) (hzc : z.cells = #[z0]) (h0 : 0 ≤ l) (h47 : l ≤ 140737488355328) (hlim : l.toNat * bytes ≤ 281474976710656)
    (hroom : len + l.toNat ≤ cap) (hst : ∀ a, a' = some a → (storeCells (a.add (len * 1)) (List.replicate l.toNat z0)).run P w = .ok () w') (hn : a' = none → w' = w) :
    (Builtin.append_ #[sT, xT] r #[.slice a' len cap, .int .i64 l]).run P w = .ok (.slice a' (len + l.toNat) cap) w' := by
  obtain ⟨i, hi, hib⟩ := hT.byt e bytes hby
  have hti : ∀ w, (typeInfo e).run P w = .ok i w := by intro w; simp [typeInfo, hi]
  have hwr : IntKind.i64.wrap l = l := i64_in l (by omega)
  have hlb : ¬ l * (bytes : Int) > 2 ^ 48 := by
    have : l = (l.toNat : Int) := by omega
    rw [this, ← Int.natCast_mul]; omega
  unfold Builtin.append_
  simp only [List.getElem?_toArray, List.getElem?_cons_zero, List.getElem?_cons_succ]
  simp only [Sem.run_bind, run_und hT hu, Result.andThen_ok, run_sz hT hsz]
  simp only [Sem.run_bind, run_und hT hux, Result.andThen_ok, Sem.run_pure, if_true, asInt, asIntOf, hwr]
  rw [Sem.run_ite, if_neg (by omega)]
  simp only [Sem.run_bind, hti, Result.andThen_ok, hib]
  rw [Sem.run_ite, if_neg hlb]
  simp only [Sem.run_bind, Sem.run_pure, Result.andThen_ok]
  rw [Sem.run_ite, if_pos hroom]
  simp only [Sem.run_bind, Bool.not_true, Bool.false_eq_true, if_false]
  rw [Sem.run_ite]
  by_cases hk : l.toNat * 1 = 0
  · rw [if_pos hk]
    have hk' : l.toNat = 0 := by omega
    simp only [Sem.run_pure, Result.andThen_ok]
    rw [hk'] at hst
    cases a' with
    | none => simp only [Sem.run_pure, Result.andThen_ok]; rw [hn rfl]
    | some a => have := hst a rfl; simp only [List.replicate_zero] at this; simp only [Sem.run_bind, this, Result.andThen_ok, Sem.run_pure]
  · rw [if_neg hk]
    simp only [Sem.run_bind, run_zero hT hz, Result.andThen_ok, Sem.run_pure, zeroCells_one hzc]
    cases a' with
    | none => simp only [Sem.run_pure, Result.andThen_ok]; rw [hn rfl]
    | some a => simp only [Sem.run_bind, hst a rfl, Result.andThen_ok, Sem.run_pure]
include hT in
theorem appZ_grow {w : World} {sT xT r e : TypeId} {kk : IntKind} {bytes : Nat} {z : Value} {z0 : Value} {l : Int} {a' : Option Addr} {len cap nc : Nat} {olds' : List Value} (hu : T.und sT = some (.slice e)) (hux : T.und xT = some (.int kk))
    (hsz : T.sz e = some 1) (hby : T.byt e = some bytes) (hz : T.zero e = some z) (hzc : z.cells = #[z0]) (h0 : 0 ≤ l) (h47 : l ≤ 140737488355328) (hbytes : bytes ≠ 0) (hlim : (len + l.toNat) * bytes ≤ 140737488355328)
    (hroom : cap < len + l.toNat) (hcap : (Question.appendCap (len + l.toNat) cap e).cut (w.tape w.drawn (.appendCap (len + l.toNat) cap e)) = nc)
    (hold : (Builtin.firstCells 1 len (.slice a' len cap)).run P { w with drawn := w.drawn + 1 } = .ok olds'.toArray { w with drawn := w.drawn + 1 }) :
    (Builtin.append_ #[sT, xT] r #[.slice a' len cap, .int .i64 l]).run P w = .ok (.slice (some ⟨w.heap.size, 0, none⟩) (len + l.toNat) nc)
      (allocW { w with drawn := w.drawn + 1 } (.cells (olds'.toArray ++ (List.replicate l.toNat z0).toArray ++ Builtin.zeroCells z.cells (nc - (len + l.toNat))) e)) := by
  obtain ⟨i, hi, hib⟩ := hT.byt e bytes hby
  have hti : ∀ w, (typeInfo e).run P w = .ok i w := by intro w; simp [typeInfo, hi]
  have hwr : IntKind.i64.wrap l = l := i64_in l (by omega)
  have hle : l.toNat * bytes ≤ (len + l.toNat) * bytes := Nat.mul_le_mul_right _ (by omega)
  have hlb : ¬ l * (bytes : Int) > 2 ^ 48 := by
    have : l = (l.toNat : Int) := by omega
    rw [this, ← Int.natCast_mul]; omega
  have hnc := nextcap_le (len + l.toNat) cap hroom
  have hle48 : Builtin.nextslicecap (len + l.toNat) cap * bytes ≤ 281474976710656 := by
    have := Nat.mul_le_mul_right bytes hnc
    rw [Nat.mul_assoc] at this
    omega
  have hmx : len + l.toNat ≤ 140737488355328 := by
    have := Nat.mul_le_mul_left (len + l.toNat) (show 1 ≤ bytes by omega)
    omega
  have hzz : (Builtin.zeroCells z.cells l.toNat) = (List.replicate l.toNat z0).toArray := zeroCells_one hzc _
  unfold Builtin.append_
  simp only [List.getElem?_toArray, List.getElem?_cons_zero, List.getElem?_cons_succ]
  simp only [Sem.run_bind, run_und hT hu, Result.andThen_ok, run_sz hT hsz]
  simp only [Sem.run_bind, run_und hT hux, Result.andThen_ok, Sem.run_pure, if_true, asInt, asIntOf, hwr]
  rw [Sem.run_ite, if_neg (by omega)]
  simp only [Sem.run_bind, hti, Result.andThen_ok, hib]
  rw [Sem.run_ite, if_neg hlb]
  simp only [Sem.run_bind, Sem.run_pure, Result.andThen_ok]
  rw [Sem.run_ite, if_neg (by omega)]
  simp only [Sem.run_bind, hti, Result.andThen_ok, hib]
  rw [Sem.run_ite, if_neg (by
    rintro ⟨h, -⟩
    have : IntKind.i64.max = 9223372036854775807 := rfl
    rw [this] at h
    omega)]
  simp only [Sem.run_bind, hti, Result.andThen_ok, hib]
  rw [Sem.run_ite, if_neg (by omega)]
  simp only [Sem.run_bind, run_choose, Question.forced, Bool.false_eq_true, if_false, Result.andThen_ok, hcap, hti, Sem.run_pure, run_askRoom, hold, Bool.not_true, run_zero hT hz]
  rw [Sem.run_ite]
  by_cases hk : l.toNat * 1 = 0
  · rw [if_pos hk]
    have hk' : l.toNat = 0 := by omega
    simp only [Sem.run_pure, Result.andThen_ok, newRow_run]
    rw [hk']
    simp
  · rw [if_neg hk]
    simp only [Sem.run_bind, run_zero hT hz, Result.andThen_ok, Sem.run_pure, hzz, newRow_run]
include hT in
theorem appendZ_does {st st' : St} {w : World} (h : R n b T0 w0 μ st w) {sT xT r e : TypeId} {kk : IntKind} {bytes : Nat} {z s s' v : Value} {l : Int} {foot : List Nat} (hu : T.und sT = some (.slice e)) (hux : T.und xT = some (.int kk))
    (hsz : T.sz e = some 1) (hby : T.byt e = some bytes) (hz : T.zero e = some z) (hm : appendCore st 1 bytes z s (zsource z l) = some (v, st', foot)) (hs : VR μ s s') : Does P n b T0 w0 μ w (Builtin.append_ #[sT, xT] r #[s', .int .i64 l]) v st' := by
  generalize hsrc : zsource z l = src at hm
  unfold appendCore at hm
  split at hm
  case h_2 => cases hm
  rename_i k new
  split at hm
  · cases hm
  rename_i hcond
  have hbytes : bytes ≠ 0 := fun e => hcond (.inr (.inl e))
  have hone : new.all oneC = true := by
    cases hq : new.all oneC with
    | true => rfl
    | false => exact absurd (.inr (.inr (.inr hq))) hcond
  obtain ⟨z0, hzc, hz0, h0, h47, rfl, rfl⟩ := zsource_spec hsrc
  have hnl : (List.replicate l.toNat z0).length = l.toNat := by simp
  have hnv : ∀ μ, VRs μ (List.replicate l.toNat z0) (List.replicate l.toNat z0) := fun μ => VRs.plain0 (by
    rw [List.all_eq_true]; intro x hx; rw [(List.mem_replicate.1 hx).2]; exact hz0)
  -- what a new row comes to
  have grow : ∀ (a' : Option Addr) (len cap : Nat) (olds : List Value) (olds' : List Value) (stk : St), s' = .slice a' len cap → cap < len + l.toNat → (len + l.toNat) * bytes ≤ 140737488355328 →
      (Builtin.firstCells 1 len s').run P w = .ok olds'.toArray w → VRs μ olds olds' → olds.length = len * 1 → R n b T0 w0 μ stk w → stk.length = st.length →
      Does P n b T0 w0 μ w (Builtin.append_ #[sT, xT] r #[s', .int .i64 l]) (.slice (some ⟨st.length, 0, some 1⟩) (len + l.toNat) (len + l.toNat)) (stk ++ [some ⟨olds ++ List.replicate l.toNat z0, .row 1⟩]) := by
    intro a' len cap olds olds' stk hs' hlt hlim hold hov hol hRk hlk
    generalize hcap : (Question.appendCap (len + l.toNat) cap e).cut (w.tape w.drawn (.appendCap (len + l.toNat) cap e)) = nc
    have hncle : len + l.toNat ≤ nc := by rw [← hcap]; exact Nat.le_add_right _ _
    have hR1 : R n b T0 w0 μ stk { w with drawn := w.drawn + 1 } := hRk.drew rfl rfl rfl rfl
    have hold1 : (Builtin.firstCells 1 len (.slice a' len cap)).run P { w with drawn := w.drawn + 1 } = .ok olds'.toArray { w with drawn := w.drawn + 1 } := by
      rw [hs'] at hold
      unfold Builtin.firstCells at hold ⊢
      cases a' with
      | none => simp at hold ⊢; exact hold
      | some a' =>
        simp only at hold ⊢
        have key : ∀ (m j : Nat) (acc : Array Value) out, (loadCellsFrom a' j m acc).run P w = .ok out w → (loadCellsFrom a' j m acc).run P { w with drawn := w.drawn + 1 } = .ok out { w with drawn := w.drawn + 1 } := by
          intro m
          induction m with
          | zero => intro j acc out hh; simp [loadCellsFrom] at hh ⊢; exact hh
          | succ m ih =>
            intro j acc out hh
            simp only [loadCellsFrom, Sem.run_bind, run_load] at hh ⊢
            have hcw : ({ w with drawn := w.drawn + 1 } : World).cell? (a'.add j) = w.cell? (a'.add j) := rfl
            rw [hcw]
            cases hc : w.cell? (a'.add j) with
            | some u => rw [hc] at hh; simp only [Result.andThen_ok] at hh ⊢; exact ih _ _ _ hh
            | none =>
              rw [hc] at hh
              simp only at hh ⊢
              cases hf : w.farLoad P (a'.add j) (Mode.plain == Mode.atomic) with
              | ok u =>
                have hf1 : ({ w with drawn := w.drawn + 1 } : World).farLoad P (a'.add j) (Mode.plain == Mode.atomic) = .ok u := hf
                rw [hf] at hh; rw [hf1]
                simp only [Result.andThen_ok] at hh ⊢; exact ih _ _ _ hh
              | error u => rw [hf] at hh; simp at hh
        exact key _ _ _ _ hold
    generalize hrest : Builtin.zeroCells z.cells (nc - (len + l.toNat)) = rest
    have hrl : rest.size = (nc - (len + l.toNat)) * 1 := by rw [← hrest, zeroCells_one hzc]; simp
    generalize hys : olds'.toArray ++ (List.replicate l.toNat z0).toArray ++ rest = ys
    have hvv := (hov.append (hnv μ))
    have hysz : ys.size = nc * 1 := by
      rw [← hys]
      simp only [Array.size_append, List.size_toArray, hrl, hnl]
      rw [← hov.1, hol]; omega
    have hg : ∀ (i : Nat) a b, (olds ++ List.replicate l.toNat z0)[i]? = some a → ys[i]? = some b → VR μ a b := by
      intro i a b ha hb
      have hi : i < (olds ++ List.replicate l.toNat z0).length := (List.getElem?_eq_some_iff.1 ha).1
      have hi' : i < (olds' ++ List.replicate l.toNat z0).length := hvv.1 ▸ hi
      rw [← hys, Array.getElem?_append_left (by simp at hi' ⊢; omega)] at hb
      refine hvv.2 i a b ha ?_
      have : olds'.toArray ++ (List.replicate l.toNat z0).toArray = (olds' ++ List.replicate l.toNat z0).toArray := by simp
      rw [this] at hb; simpa using hb
    have hle : (olds ++ List.replicate l.toNat z0).length ≤ ys.size := by
      rw [hysz, List.length_append, hol, hnl]; omega
    have hfin := hR1.alloc (t := e) (xs := olds ++ List.replicate l.toNat z0) (ys := ys) (kind := .row 1) (esz := 1) (by simp) (.inr ⟨rfl, by decide⟩) hle hg (0, 0) ⟨by simp, by simp⟩
    refine ⟨_, .slice (some ⟨w.heap.size, 0, none⟩) (len + l.toNat) nc, _, ?_, Ext.append _ _, ?_, hfin⟩
    · rw [hs', appZ_grow hT hu hux hsz hby hz hzc h0 h47 hbytes hlim hlt hcap hold1, hrest, hys]
    · exact .row _ _ _ _ _ (ptr_new (by rw [h.good.len]) _) hncle rfl (by simp) (by simp only [hysz]; exact Nat.le_refl _)
  split at hm
  · -- onto nil
    cases hs
    by_cases hk : l.toNat = 0
    · split at hm
      case isFalse => cases hm
      simp at hm; obtain ⟨rfl, rfl, rfl⟩ := hm
      rw [hk]
      refine ⟨_, .slice none 0 0, w, ?_, Ext.append _ _, .row0 _, h.thin (.inr ⟨rfl, by decide⟩)⟩
      have := appZ_room hT (w := w) (w' := w) (r := r) (a' := none) (len := 0) (cap := 0) hu hux hsz hby hz hzc h0 h47 (by rw [hk]; omega) (by omega) (fun a ha => by cases ha) (fun _ => rfl)
      rw [hk] at this
      exact this
    · split at hm
      · rename_i hlim
        simp at hm; obtain ⟨rfl, rfl, rfl⟩ := hm
        have := grow none 0 0 [] [] st rfl (by omega) (by simpa using hlim) rfl .nil (by simp) h rfl
        simpa using this
      · cases hm
  · -- onto a row of the call's own
    rename_i j len c
    split at hm
    · rename_i rg hrg
      split at hm
      · rename_i hcnd
        obtain ⟨hkind, hlen, hlim⟩ := hcnd
        simp at hm; obtain ⟨rfl, rfl, rfl⟩ := hm
        have hlb : l.toNat * bytes ≤ 281474976710656 := by
          have := Nat.mul_le_mul_right bytes (show l.toNat ≤ len + l.toNat by omega)
          omega
        cases hs with
        | row0 =>
          -- what is nil
          have hrg0 : rg.cells = [] := List.length_eq_zero_iff.1 (by simpa using hlen)
          by_cases hk : l.toNat = 0
          · have hj := (List.getElem?_eq_some_iff.1 hrg).1
            have hjm : j < μ.length := by rw [h.good.len]; exact hj
            have hmv := h.move hrg (List.getElem?_eq_getElem hjm) (e := 1) hkind
            have hz := appZ_room hT (w := w) (w' := w) (r := r) (a' := none) (len := 0) (cap := 0) hu hux hsz hby hz hzc h0 h47 hlb (by omega) (fun a ha => by cases ha) (fun _ => rfl)
            rw [hk] at hz ⊢
            refine ⟨μ ++ [μ[j]], .slice none 0 0, w, hz, Ext.append _ _, .row0 _, ?_⟩
            obtain ⟨cs, kd⟩ := rg
            simp only at hkind hrg0
            subst hkind; subst hrg0
            simpa using hmv
          · have := grow none 0 0 [] [] (st.set j none) rfl (by omega) hlim rfl .nil (by simp) (h.kill j) (by simp)
            rw [hrg0]
            simpa using this
        | row _ _ _ c' p hp hc hoff hesz hlm =>
        obtain ⟨hb, hcells, hkd⟩ := h.good.ok j rg p hrg hp
        simp only [hkind] at hkd
        obtain ⟨_, hpe, _, _⟩ := hkd
        by_cases hroom : len + l.toNat ≤ c'
        · -- there is room
          have hlim2 : rg.cells.length + (List.replicate l.toNat z0).length ≤ p.lim := by
            rw [hlen, hnl]
            rw [hpe] at hlm
            omega
          obtain ⟨w', hw1, hw2⟩ := storeCells_put (P := P) _ _ st w j rg.cells.length 0 p.block (p.off + rg.cells.length) rg p h hrg hp (hnv μ) hone rfl (by omega)
            (.inr ⟨1, hkind, Nat.le_refl _, hlim2⟩)
          rw [putMany_eq _ _ _ (Nat.le_refl _), List.take_length, List.drop_eq_nil_of_le (by omega), List.append_nil] at hw2
          have hi2 : (st.set j (some { rg with cells := rg.cells ++ List.replicate l.toNat z0 }))[j]? = some (some { rg with cells := rg.cells ++ List.replicate l.toNat z0 }) := by
            rw [List.getElem?_set, if_pos rfl, if_pos (List.getElem?_eq_some_iff.1 hrg).1]
          have hw3 := hw2.move hi2 hp (e := 1) hkind
          rw [List.set_set] at hw3
          refine ⟨μ ++ [p], .slice (some ⟨p.block, 0, none⟩) (len + l.toNat) c', w', ?_, Ext.append _ _, ?_, ?_⟩
          · refine appZ_room hT hu hux hsz hby hz hzc h0 h47 hlb hroom (fun a ha => ?_) (fun ha => by cases ha)
            cases ha
            rw [hoff, hlen, Nat.zero_add] at hw1
            rw [add_none, Nat.zero_add]
            exact hw1
          · exact .row _ _ _ _ _ (ptr_new h.good.len _) hroom hoff hesz hlm
          · have : (⟨rg.cells ++ List.replicate l.toNat z0, rg.kind⟩ : Reg) = ⟨rg.cells ++ List.replicate l.toNat z0, .row 1⟩ := by rw [hkind]
            rw [← this]; exact hw3
        · -- a new row
          have hrd : rd st j 0 (len * 1) = some rg.cells := by
            unfold rd; rw [hrg]; simp only; rw [if_pos (by omega), ← hlen]; simp
          obtain ⟨olds', h1, h2, h3⟩ := rd_sound (P := P) h.good hrd hp
          exact grow (some ⟨p.block, 0, none⟩) len c' rg.cells olds' (st.set j none) rfl (by omega) hlim (by
            show (loadCells ⟨p.block, 0, none⟩ (len * 1)).run P w = _
            rw [hoff] at h1; exact h1) h2 hlen (h.kill j) (by simp)
      · cases hm
    · cases hm
  · cases hm
include hT in
theorem append_does {st st' : St} {w : World} (h : R n b T0 w0 μ st w) {sT xT r : TypeId} {s x s' x' v : Value} {foot : List Nat} (hm : aappend T st sT xT s x = some (v, st', foot))
    (hs : VR μ s s') (hx : VR μ x x') : Does P n b T0 w0 μ w (Builtin.append_ #[sT, xT] r #[s', x']) v st' := by
  unfold aappend at hm
  split at hm
  · rename_i e d hu hux
    split at hm
    · split at hm
      · rename_i bytes z l e1 e2 e3
        cases hx
        exact appendZ_does hT h hu hux e1 e2 e3 hm hs
      · cases hm
    rename_i hnint
    split at hm
    · rename_i size bytes z hsz hby hz
      generalize hsrc : source st size x = src at hm
      unfold appendCore at hm
      split at hm
      case h_2 => cases hm
      rename_i k new
      split at hm
      · cases hm
      rename_i hcond
      have hsize : size ≠ 0 := fun e => hcond (.inl e)
      have hbytes : bytes ≠ 0 := fun e => hcond (.inr (.inl e))
      have hzs : z.cells.size = size := Decidable.not_not.1 fun e => hcond (.inr (.inr (.inl e)))
      have hone : new.all oneC = true := by
        cases hq : new.all oneC with
        | true => rfl
        | false => exact absurd (.inr (.inr (.inr hq))) hcond
      obtain ⟨i, hi, hib⟩ := hT.byt e bytes hby
      have hmt : (match d with | TypeDesc.int k => true | x => false) = false := by
        cases d <;> first | rfl | exact absurd rfl (hnint _)
      have hti : ∀ w, (typeInfo e).run P w = .ok i w := by intro w; simp [typeInfo, hi]
      -- what a new row comes to
      have grow : ∀ (a' : Option Addr) (len cap : Nat) (olds : List Value) (olds' : List Value) (stk : St), s' = .slice a' len cap → cap < len + k → (len + k) * bytes ≤ 140737488355328 →
          (Builtin.firstCells size len s').run P w = .ok olds'.toArray w → VRs μ olds olds' → olds.length = len * size → R n b T0 w0 μ stk w → stk.length = st.length →
          Does P n b T0 w0 μ w (Builtin.append_ #[sT, xT] r #[s', x']) (.slice (some ⟨st.length, 0, some 1⟩) (len + k) (len + k)) (stk ++ [some ⟨olds ++ new, .row size⟩]) := by
        intro a' len cap olds olds' stk hs' hlt hlim hold hov hol hRk hlk
        obtain ⟨new', n1, n2, n3, n4⟩ := source_sound (P := P) h.good hsrc hx
        have hnc := nextcap_le (len + k) cap hlt
        have hle48 : Builtin.nextslicecap (len + k) cap * bytes ≤ 281474976710656 := by
          have := Nat.mul_le_mul_right bytes hnc
          rw [Nat.mul_assoc] at this
          omega
        generalize hcap : (Question.appendCap (len + k) cap e).cut (w.tape w.drawn (.appendCap (len + k) cap e)) = nc
        have hncle : len + k ≤ nc := by rw [← hcap]; exact Nat.le_add_right _ _
        generalize hw1 : ({ w with drawn := w.drawn + 1 } : World) = w1
        have hR1 : R n b T0 w0 μ stk w1 := by subst hw1; exact hRk.drew rfl rfl rfl rfl
        have hR1' : R n b T0 w0 μ st w1 := by subst hw1; exact h.drew rfl rfl rfl rfl
        obtain ⟨new2, m1, m2, m3, m4⟩ := source_sound (P := P) hR1'.good hsrc hx
        have hold1 : (Builtin.firstCells size len s').run P w1 = .ok olds'.toArray w1 := by
          rw [hs'] at hold ⊢
          unfold Builtin.firstCells at hold ⊢
          cases a' with
          | none => simp at hold ⊢; exact hold
          | some a' =>
            simp only at hold ⊢
            have key : ∀ (m j : Nat) (acc : Array Value) out, (loadCellsFrom a' j m acc).run P w = .ok out w → (loadCellsFrom a' j m acc).run P w1 = .ok out w1 := by
              intro m
              induction m with
              | zero => intro j acc out hh; simp [loadCellsFrom] at hh ⊢; exact hh
              | succ m ih =>
                intro j acc out hh
                simp only [loadCellsFrom, Sem.run_bind, run_load] at hh ⊢
                have hcw : w1.cell? (a'.add j) = w.cell? (a'.add j) := by subst hw1; rfl
                rw [hcw]
                cases hc : w.cell? (a'.add j) with
                | some u => rw [hc] at hh; simp only [Result.andThen_ok] at hh ⊢; exact ih _ _ _ hh
                | none =>
                  rw [hc] at hh
                  simp only at hh ⊢
                  cases hf : w.farLoad P (a'.add j) (Mode.plain == Mode.atomic) with
                  | ok u =>
                    have hf1 : w1.farLoad P (a'.add j) (Mode.plain == Mode.atomic) = .ok u := by subst hw1; exact hf
                    rw [hf] at hh; rw [hf1]
                    simp only [Result.andThen_ok] at hh ⊢; exact ih _ _ _ hh
                  | error u => rw [hf] at hh; simp at hh
            exact key _ _ _ _ hold
        generalize hrest : Builtin.zeroCells z.cells (nc - (len + k)) = rest
        have hrl : rest.size = (nc - (len + k)) * size := by rw [← hrest]; simp [Builtin.zeroCells, hzs]
        generalize hys : olds'.toArray ++ new2.toArray ++ rest = ys
        have hvv := (hov.append m3)
        have hysz : ys.size = nc * size := by
          rw [← hys]
          simp only [Array.size_append, List.size_toArray, hrl]
          rw [← hov.1, ← m3.1, hol, m4, ← Nat.add_mul, ← Nat.add_mul]
          congr 1; omega
        have hg : ∀ (i : Nat) a b, (olds ++ new)[i]? = some a → ys[i]? = some b → VR μ a b := by
          intro i a b ha hb
          have hi : i < (olds ++ new).length := (List.getElem?_eq_some_iff.1 ha).1
          have hi' : i < (olds' ++ new2).length := hvv.1 ▸ hi
          rw [← hys, Array.getElem?_append_left (by simp at hi' ⊢; omega)] at hb
          refine hvv.2 i a b ha ?_
          have : olds'.toArray ++ new2.toArray = (olds' ++ new2).toArray := by simp
          rw [this] at hb; simpa using hb
        have hle : (olds ++ new).length ≤ ys.size := by
          rw [hysz, List.length_append, hol, m4, ← Nat.add_mul]
          exact Nat.mul_le_mul_right _ hncle
        have hfin := hR1.alloc (t := e) (xs := olds ++ new) (ys := ys) (kind := .row size) (esz := size) (by simp) (.inr ⟨rfl, hsize⟩) hle hg (0, 0) ⟨by simp, by simp⟩
        refine ⟨_, .slice (some ⟨w1.heap.size, 0, none⟩) (len + k) nc, _, ?_, Ext.append _ _, ?_, hfin⟩
        · rw [hs'] at hold1 ⊢
          unfold Builtin.append_
          simp only [List.getElem?_toArray, List.getElem?_cons_zero, List.getElem?_cons_succ]
          simp only [Sem.run_bind, run_und hT hu, Result.andThen_ok, run_sz hT hsz]
          simp only [Sem.run_bind, run_und hT hux, Result.andThen_ok, Sem.run_pure, hmt, Bool.false_eq_true, if_false, n1]
          rw [Sem.run_ite, if_neg (by omega)]
          simp only [Sem.run_bind, hti, Result.andThen_ok, hib]
          rw [Sem.run_ite, if_neg (by simp; omega)]
          simp only [Sem.run_bind, hti, Result.andThen_ok, hib]
          rw [Sem.run_ite, if_neg (by omega)]
          simp only [Sem.run_bind, run_choose, Question.forced, Bool.false_eq_true, if_false, Result.andThen_ok, hcap, hw1, hti, Sem.run_pure, run_askRoom, hold1, Bool.not_false, if_true, m2, run_zero hT hz, hrest, newRow_run, hys]
        · exact .row _ _ _ _ _ (ptr_new (by rw [h.good.len]) _) hncle rfl hsize (by simp only [hysz]; exact Nat.le_refl _)
      split at hm
      · -- onto nil
        cases hs
        by_cases hk : k = 0
        · subst hk
          obtain ⟨new', n1, n2, n3, n4⟩ := source_sound (P := P) h.good hsrc hx
          obtain rfl : new = [] := List.length_eq_zero_iff.1 (by simpa using n4)
          split at hm
          case isFalse => cases hm
          simp at hm; obtain ⟨rfl, rfl, rfl⟩ := hm
          refine ⟨_, .slice none 0 0, w, ?_, Ext.append _ _, .row0 _, h.thin (.inr ⟨rfl, hsize⟩)⟩
          unfold Builtin.append_
          simp only [List.getElem?_toArray, List.getElem?_cons_zero, List.getElem?_cons_succ]
          simp only [Sem.run_bind, run_und hT hu, Result.andThen_ok, run_sz hT hsz]
          simp only [Sem.run_bind, run_und hT hux, Result.andThen_ok, Sem.run_pure, hmt, Bool.false_eq_true, if_false, n1]
          simp [Sem.run_bind, n2]
        · split at hm
          · rename_i hlim
            simp at hm; obtain ⟨rfl, rfl, rfl⟩ := hm
            have := grow none 0 0 [] [] st rfl (by omega) (by simpa using hlim) rfl .nil (by simp) h rfl
            simpa using this
          · cases hm
      · -- onto a row of the call's own
        rename_i j len c
        split at hm
        · rename_i rg hrg
          split at hm
          · rename_i hcnd
            obtain ⟨hkind, hlen, hlim⟩ := hcnd
            simp at hm; obtain ⟨rfl, rfl, rfl⟩ := hm
            cases hs with
            | row0 =>
              -- what is nil
              have hrg0 : rg.cells = [] := List.length_eq_zero_iff.1 (by simpa using hlen)
              by_cases hk : k = 0
              · subst hk
                obtain ⟨new', n1, n2, n3, n4⟩ := source_sound (P := P) h.good hsrc hx
                obtain rfl : new = [] := List.length_eq_zero_iff.1 (by simpa using n4)
                have hj := (List.getElem?_eq_some_iff.1 hrg).1
                have hjm : j < μ.length := by rw [h.good.len]; exact hj
                have hmv := h.move hrg (List.getElem?_eq_getElem hjm) (e := size) hkind
                refine ⟨μ ++ [μ[j]], .slice none 0 0, w, ?_, Ext.append _ _, .row0 _, ?_⟩
                · unfold Builtin.append_
                  simp only [List.getElem?_toArray, List.getElem?_cons_zero, List.getElem?_cons_succ]
                  simp only [Sem.run_bind, run_und hT hu, Result.andThen_ok, run_sz hT hsz]
                  simp only [Sem.run_bind, run_und hT hux, Result.andThen_ok, Sem.run_pure, hmt, Bool.false_eq_true, if_false, n1]
                  simp [Sem.run_bind, n2]
                · obtain ⟨cs, kd⟩ := rg
                  simp only at hkind hrg0
                  subst hkind; subst hrg0
                  simpa using hmv
              · have := grow none 0 0 [] [] (st.set j none) rfl (by omega) hlim rfl .nil (by simp) (h.kill j) (by simp)
                rw [hrg0]
                simpa using this
            | row _ _ _ c' p hp hc hoff hesz hlm =>
            obtain ⟨hb, hcells, hkd⟩ := h.good.ok j rg p hrg hp
            simp only [hkind] at hkd
            obtain ⟨_, hpe, _, _⟩ := hkd
            by_cases hroom : len + k ≤ c'
            · -- there is room
              obtain ⟨new', n1, n2, n3, n4⟩ := source_sound (P := P) h.good hsrc hx
              have hlim2 : rg.cells.length + new.length ≤ p.lim := by
                rw [hlen, n4, ← Nat.add_mul]
                refine Nat.le_trans (Nat.mul_le_mul_right _ hroom) ?_
                rw [← hpe]; exact hlm
              obtain ⟨w', hw1, hw2⟩ := storeCells_put (P := P) new new' st w j rg.cells.length 0 p.block (p.off + rg.cells.length) rg p h hrg hp n3 hone rfl (by omega)
                (.inr ⟨size, hkind, Nat.le_refl _, hlim2⟩)
              rw [putMany_eq _ _ _ (Nat.le_refl _), List.take_length, List.drop_eq_nil_of_le (by omega), List.append_nil] at hw2
              have hi2 : (st.set j (some { rg with cells := rg.cells ++ new }))[j]? = some (some { rg with cells := rg.cells ++ new }) := by
                rw [List.getElem?_set, if_pos rfl, if_pos (List.getElem?_eq_some_iff.1 hrg).1]
              have hw3 := hw2.move hi2 hp (e := size) hkind
              rw [List.set_set] at hw3
              refine ⟨μ ++ [p], .slice (some ⟨p.block, 0, none⟩) (len + k) c', w', ?_, Ext.append _ _, ?_, ?_⟩
              · unfold Builtin.append_
                simp only [List.getElem?_toArray, List.getElem?_cons_zero, List.getElem?_cons_succ]
                simp only [Sem.run_bind, run_und hT hu, Result.andThen_ok, run_sz hT hsz]
                simp only [Sem.run_bind, run_und hT hux, Result.andThen_ok, Sem.run_pure, hmt, Bool.false_eq_true, if_false, n1]
                rw [Sem.run_ite, if_pos hroom]
                simp only [Sem.run_bind, Bool.not_false, if_true, n2, Result.andThen_ok, add_none, Nat.zero_add]
                rw [hoff, hlen, Nat.zero_add] at hw1
                simp only [hw1, Result.andThen_ok, Sem.run_pure]
              · exact .row _ _ _ _ _ (ptr_new h.good.len _) hroom hoff hesz hlm
              · have : (⟨rg.cells ++ new, rg.kind⟩ : Reg) = ⟨rg.cells ++ new, .row size⟩ := by rw [hkind]
                rw [← this]; exact hw3
            · -- a new row
              have hrd : rd st j 0 (len * size) = some rg.cells := by
                unfold rd; rw [hrg]; simp only; rw [if_pos (by omega), ← hlen]; simp
              obtain ⟨olds', h1, h2, h3⟩ := rd_sound (P := P) h.good hrd hp
              exact grow (some ⟨p.block, 0, none⟩) len c' rg.cells olds' (st.set j none) rfl (by omega) hlim (by
                show (loadCells ⟨p.block, 0, none⟩ (len * size)).run P w = _
                rw [hoff] at h1; exact h1) h2 hlen (h.kill j) (by simp)
          · cases hm
        · cases hm
      · cases hm
    · cases hm
  · cases hm

end
end Go.Proofs.Ytggkdjhgknghcaa.Am

namespace Go.Proofs.Ytggkdjhgknghcaa.Am
section
variable {P : Program} {T : Tab} (hT : TabOk P T) {O : Orc} (hO : OrcOk P O) {n b : Nat} {T0 : Nat → Nat → Prop} {w0 : World} {μ : List Place}

theorem wp_of_run {o : Oper} {a : Act} {w w' : World} {K : Act → World → Prop} {Q : Exit → Act → World → Prop} {r : Value} (h : (execOp a.eval o).run P w = .ok (.value r) w') (hk : K (a.put o.dst r) w') :
    o.wp P a w K Q := by
  unfold Oper.wp; rw [h]; exact hk
theorem wp_of_skip {o : Oper} {a : Act} {w w' : World} {K : Act → World → Prop} {Q : Exit → Act → World → Prop} (h : (execOp a.eval o).run P w = .ok .skip w') (hk : K (a.put o.dst undef) w') :
    o.wp P a w K Q := by
  unfold Oper.wp; rw [h]; exact hk

include hT hO in
theorem aeff_wp {st st' : St} {w : World} {ρ : Operand → Option Value} {a : Act} {o : Oper} {v : Value} {foot : List Nat} (h : aeff T O st ρ o.op = some (v, st', foot))
    (hρ : ∀ x ∈ o.op.operands, ∀ va, ρ x = some va → VR μ va (a.eval x)) (hR : R n b T0 w0 μ st w) {K : Act → World → Prop} {Q : Exit → Act → World → Prop}
    (hK : ∀ μ' r w', Ext μ μ' → VR μ' v r → R n b T0 w0 μ' st' w' → K (a.put o.dst r) w') : o.wp P a w K Q := by
  obtain ⟨dst, op, ty, pos, after, guard⟩ := o
  simp only at h hρ hK
  have lift : ∀ {s : Sem Value}, (execOp a.eval ⟨dst, op, ty, pos, after, guard⟩ = do pure (.value (← s))) → Does P n b T0 w0 μ w s v st' → Oper.wp P ⟨dst, op, ty, pos, after, guard⟩ a w K Q := by
    rintro s he ⟨μ', r, w', h1, h2, h3, h4⟩
    refine wp_of_run (r := r) (w' := w') ?_ (hK μ' r w' h2 h3 h4)
    rw [he]; simp [Sem.run_bind, h1]
  cases op with
  | alloc e =>
    simp only [aeff] at h
    split at h
    · rename_i z hz
      split at h
      · rename_i hp
        simp at h; obtain ⟨rfl, rfl, rfl⟩ := h
        exact lift rfl (alloc_does hT hR hz hp)
      · cases h
    · cases h
  | box e x =>
    simp only [aeff] at h
    split at h
    · rename_i u hu
      simp at h; obtain ⟨rfl, rfl, rfl⟩ := h
      exact lift rfl (newVar_does hR (hρ x (by simp [Op.operands]) _ hu).cells)
    · cases h
  | store t ad x =>
    simp only [aeff, storeCore] at h
    split at h
    · rename_i i off u m e1 e2 e3
      split at h
      · rename_i hm
        split at h
        · rename_i st2 hw
          simp at h; obtain ⟨rfl, rfl, rfl⟩ := h
          obtain ⟨w', h1, h2⟩ := store_does hT hR (hρ ad (by simp [Op.operands]) _ e1) (hρ x (by simp [Op.operands]) _ e2) e3 hm hw
          refine wp_of_skip (w' := w') ?_ (hK μ undef w' (Ext.refl _) .undef h2)
          simp [execOp, Sem.run_bind, h1]
        · cases h
      · cases h
    · cases h
  | buildSlice t len ps =>
    simp only [aeff] at h
    split at h
    · rename_i vs hvs
      refine lift rfl (buildSlice_does hT hR h ?_)
      rw [parts_map_eq]
      refine parts_sound hvs fun p hp v hv => hρ p.2 ?_ v hv
      simp only [Op.operands]
      simp only [List.mem_toArray, List.mem_map]
      exact ⟨p, hp, rfl⟩
    · cases h
  | makeSlice t l c =>
    simp only [aeff] at h
    split at h
    · rename_i l1 c1 e1 e2
      exact lift rfl (make_does hT hR h (hρ l (by simp [Op.operands]) _ e1) (hρ c (by simp [Op.operands]) _ e2))
    · cases h
  | convert src dst x =>
    simp only [aeff] at h
    split at h
    · rename_i u hu
      exact lift rfl (bytes_does hT hR h (hρ x (by simp [Op.operands]) _ hu))
    · cases h
  | call c =>
    obtain ⟨callee, args, ts⟩ := c
    cases callee with
    | builtin b =>
      cases b with
      | append =>
        simp only [aeff] at h
        split at h
        · rename_i s x sT xT e1 e2
          obtain rfl : args = #[s, x] := by simpa using congrArg List.toArray e1
          obtain rfl : ts = #[sT, xT] := by simpa using congrArg List.toArray e2
          split at h
          · rename_i s1 x1 e3 e4
            refine lift ?_ (append_does (r := ty) hT hR h (hρ s (by simp [Op.operands, Call.operands]) _ e3) (hρ x (by simp [Op.operands, Call.operands]) _ e4))
            simp [execOp, resolve, invoke, builtin]
          · cases h
        · cases h
      | copy =>
        simp only [aeff] at h
        split at h
        · rename_i s x sT xT e1 e2
          obtain rfl : args = #[s, x] := by simpa using congrArg List.toArray e1
          obtain rfl : ts = #[sT, xT] := by simpa using congrArg List.toArray e2
          split at h
          · rename_i s1 x1 e3 e4
            refine lift ?_ (copy_does (sT := xT) (r := ty) hT hR h (hρ s (by simp [Op.operands, Call.operands]) _ e3) (hρ x (by simp [Op.operands, Call.operands]) _ e4))
            simp [execOp, resolve, invoke, builtin]
          · cases h
        · cases h
      | clear =>
        simp only [aeff] at h
        split at h
        · rename_i x t e1 e2
          obtain rfl : args = #[x] := by simpa using congrArg List.toArray e1
          obtain rfl : ts = #[t] := by simpa using congrArg List.toArray e2
          split at h
          · rename_i x1 e3
            refine lift ?_ (clear_does (r := ty) hT hR h (hρ x (by simp [Op.operands, Call.operands]) _ e3))
            simp [execOp, resolve, invoke, builtin]
          · cases h
        · cases h
      | _ => simp [aeff] at h
    | value f =>
      simp only [aeff] at h
      split at h
      · rename_i fv vs e1 e2
        have hf := hρ f (by simp [Op.operands, Call.operands]) _ e1
        have hvs := mapO_sound (g := a.eval) e2 fun x hx v hv => hρ x (by simp [Op.operands, Call.operands]; exact .inr (by simpa using hx)) v hv
        unfold acall at h
        split at h
        · rename_i g first captured
          split at h
          · rename_i v2 st2 hrun
            simp at h; obtain ⟨rfl, rfl, rfl⟩ := h
            generalize hq : a.eval f = q at hf
            cases hf with
            | func _ _ ys _ ds h1 h2 h3 h4 =>
              obtain ⟨fn, b1, b2, b3⟩ := hO.body _ _ _ _ _ hrun
              have hargs : VRs μ (first.toList ++ vs ++ captured.toList) (ys ++ args.map a.eval ++ ds).toList := by
                simp only [Array.toList_append, Array.toList_map]
                refine (VRs.append (VRs.append ⟨by simpa using h1, fun i x y hx hy => h2 i x y (by simpa using hx) (by simpa using hy)⟩ hvs) ⟨by simpa using h3, fun i x y hx hy => h4 i x y (by simpa using hx) (by simpa using hy)⟩)
              have hc := hO.calls _ _ _ _ _ hrun μ w _ hargs hR.good
              have hex : (execOp a.eval ⟨dst, .call ⟨.value f, args, ts⟩, ty, pos, after, guard⟩).run P w = .ok (.enter g (ys ++ args.map a.eval ++ ds)) w := by
                simp only [execOp, resolve, hq, Deferred.ofValue, invoke, callFunc, Sem.run_bind, run_program, Result.andThen_ok, b1, b2, b3, Bool.false_eq_true, if_false, Sem.run_pure]
              unfold Oper.wp
              rw [hex, Oper.upon_enter]
              refine hc.mono ?_
              rintro e w' ⟨μ', u, rfl, hu, hext, hR'⟩
              exact hK μ' u w' hext hu (hR.call hext hR')
          · cases h
        · cases h
      · cases h
    | invoke r m => simp [aeff] at h
  | _ => simp [aeff] at h

/-- What an operation touches. -/
inductive Info where
  | pure
  | load (rs : List Nat)
  | eff (foot : List Nat) (len : Nat)

def areads (O : Orc) (ρ : Operand → Option Value) : Op → Option (List Nat)
  | .call ⟨.value f, args, _⟩ => match ρ f, mapO ρ args.toList with
    | some (.func (.func g) first captured), some vs => O.reads g (first.toList ++ vs ++ captured.toList)
    | _, _ => none
  | _ => none

/-- An effect, and what it touches: a call that writes nothing and makes nothing is a reading. -/
def effI (e : Option (Value × St × List Nat)) (rd : Option (List Nat)) (len : Nat) : Option (Value × St × Info) :=
  match e with
  | some (v, st', foot) => match rd with
    | some rs => if st'.length = len then some (v, st', .load rs) else some (v, st', .eff foot len)
    | none => some (v, st', .eff foot len)
  | none => none
def aeffI (T : Tab) (O : Orc) (st : St) (ρ : Operand → Option Value) (op : Op) : Option (Value × St × Info) := effI (aeff T O st ρ op) (areads O ρ op) st.length

def aop (T : Tab) (O : Orc) (st : St) (ρ : Operand → Option Value) (op : Op) : Option (Value × St × Info) :=
  match apure T ρ op with
  | some v => some (v, st, .pure)
  | none => match op with
    | .load t a => match ρ a with
      | some u => match aload T st t u with
        | some (v, r) => some (v, st, .load [r])
        | none => none
      | none => none
    | op => aeffI T O st ρ op

include hT hO in
theorem aop_wp {st st' : St} {w : World} {ρ : Operand → Option Value} {a : Act} {o : Oper} {v : Value} {inf : Info} (h : aop T O st ρ o.op = some (v, st', inf))
    (hρ : ∀ x ∈ o.op.operands, ∀ va, ρ x = some va → VR μ va (a.eval x)) (hR : R n b T0 w0 μ st w) {K : Act → World → Prop} {Q : Exit → Act → World → Prop}
    (hK : ∀ μ' r w', Ext μ μ' → VR μ' v r → R n b T0 w0 μ' st' w' → K (a.put o.dst r) w') : o.wp P a w K Q := by
  unfold aop at h
  split at h
  · rename_i u hu
    simp at h; obtain ⟨rfl, rfl, rfl⟩ := h
    obtain ⟨r, h1, h2⟩ := apure_sound hT w hu hρ
    exact wp_of_run h1 (hK μ r w (Ext.refl _) h2 hR)
  · split at h
    · rename_i t ad hop
      split at h
      · rename_i u hu
        split at h
        · rename_i v2 r2 hl
          simp at h; obtain ⟨rfl, rfl, rfl⟩ := h
          obtain ⟨r, h1, h2⟩ := aload_sound (P := P) hT hR.good hl (hρ ad (by rw [hop]; simp [Op.operands]) _ hu)
          refine wp_of_run (r := r) ?_ (hK μ r w (Ext.refl _) h2 hR)
          simp [execOp, hop, Sem.run_bind, h1]
        · cases h
      · cases h
    · unfold aeffI effI at h
      split at h
      · rename_i v2 st2 foot he
        have : v2 = v ∧ st2 = st' := by
          split at h
          · split at h <;> (simp at h; exact ⟨h.1, h.2.1⟩)
          · simp at h; exact ⟨h.1, h.2.1⟩
        obtain ⟨rfl, rfl⟩ := this
        exact aeff_wp hT hO he hρ hR hK
      · cases h

end
end Go.Proofs.Ytggkdjhgknghcaa.Am
