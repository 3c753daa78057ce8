/- Bytes and numbers in lists, for the abstract machine: without conditions. -/
import Derived.Test.YtggkdjhgknghcaaRun
import Derived.IntWalk
namespace Go.Proofs.Ytggkdjhgknghcaa.Run
open Am IntWalk

def u8s : List Value → Option (List Int)
  | [] => some []
  | .int .u8 n :: r => match u8s r with
    | some l => some (n :: l)
    | none => none
  | _ => none
theorem u8s_spec : ∀ {l : List Value} {m : List Int}, u8s l = some m → l = m.map (.int .u8) := by
  intro l
  induction l with
  | nil => intro m h; simp [u8s] at h; subst h; rfl
  | cons v r ih =>
    intro m h
    unfold u8s at h
    split at h
    · rename_i e; cases e
    · rename_i n r' e
      cases e
      split at h
      · rename_i l' hl; simp at h; subst h; simp [ih hl]
      · cases h
    · cases h
theorem u8s_map : ∀ (m : List Int), u8s (m.map (.int .u8)) = some m := by
  intro m
  induction m with
  | nil => rfl
  | cons n r ih => simp only [List.map_cons, u8s, ih]
theorem list_range {m : List Int} {n : Nat} (h : m.length = n) : m.map (Value.int .u8) = (List.range n).map fun i => .int .u8 (m.getD i 0) := by
  apply List.ext_getElem?
  intro i
  simp only [List.getElem?_map, List.getD_eq_getElem?_getD]
  by_cases hi : i < n
  · rw [List.getElem?_range hi]
    have : i < m.length := by omega
    simp [List.getElem?_eq_getElem this]
  · rw [List.getElem?_eq_none (by omega), List.getElem?_eq_none (by simp; omega)]; rfl
def u8N (n : Nat) (K : Nat → Int) : List Value := (List.range n).map fun i => .int .u8 (K i)
theorem plain_u8 (l : List Int) : (l.map (Value.int .u8)).all plain0 = true := by
  rw [List.all_map]; exact List.all_eq_true.2 fun _ _ => rfl
theorem one_u8 (l : List Int) : (l.map (Value.int .u8)).all oneC = true := by
  rw [List.all_map]; exact List.all_eq_true.2 fun _ _ => rfl
theorem plainReg_u8 (l : List Int) (k : RK) : plainReg (some ⟨l.map (.int .u8), k⟩) = true := plain_u8 l

def pR (i : Nat) : Value := .pointer (some ⟨i, 0, none⟩)
/-- A slice of so many elements, all of a region's (of one cell each). -/
def slR (i n : Nat) : Value := .slice (some ⟨i, 0, none⟩) n n
/-- A row of so many elements. -/
def rowR (i n : Nat) : Value := .slice (some ⟨i, 0, some 1⟩) n n
/-- Bytes, in a region. -/
def byR (l : List Int) (k : RK) : Option Reg := some ⟨l.map (.int .u8), k⟩

theorem idx_ok {i off len k : Nat} (h : k < len) : idxAt i off 1 len (k : Int) = some (.pointer (some ⟨i, off + k, none⟩)) := by
  unfold idxAt
  rw [if_pos ⟨by omega, by omega⟩]
  simp
theorem idx_ok0 {i len k : Nat} (h : k < len) : idxAt i 0 1 len (k : Int) = some (.pointer (some ⟨i, k, none⟩)) := by
  rw [idx_ok h, Nat.zero_add]
theorem cell_u8 {st : St} {i k : Nat} {l : List Int} {kd : RK} {x : Int} (h : st[i]? = some (byR l kd)) (hx : l[k]? = some x) : cellAt st i k = some (.int .u8 x, i) := by
  unfold cellAt
  rw [h]
  simp [byR, hx]
theorem lss_eq {k : IntKind} {a b : Int} {t : Bool} (h : decide (a < b) = t) : aint .lss k a b = some (.bool t) := by simp [aint, h]
theorem add_i64 {a b c : Int} (h : a + b = c) (h1 : -9223372036854775808 ≤ c ∧ c ≤ 9223372036854775807) : aint .add .i64 a b = some (.int .i64 c) := by
  simp [aint, h, i64_in c h1]
theorem neq_eq {k : IntKind} {a b : Int} {t : Bool} (h : (a != b) = t) : aint .neq k a b = some (.bool t) := by simp [aint, h]
theorem rd_u8 {st : St} {i off n : Nat} {l : List Int} {kd : RK} (h : st[i]? = some (byR l kd)) (hn : off + n ≤ l.length) : rd st i off n = some (((l.drop off).take n).map (.int .u8)) := by
  unfold rd
  rw [h]
  simp only [byR, List.length_map]
  rw [if_pos hn, List.map_take, List.map_drop]
/-- The bytes that are appended: all of a region's. -/
theorem source_all {st : St} {i c : Nat} {l : List Int} {kd : RK} (h : st[i]? = some (byR l kd)) : source st 1 (.slice (some ⟨i, 0, none⟩) l.length c) = some (l.length, l.map (.int .u8)) := by
  have := rd_u8 (off := 0) (n := l.length * 1) h (by simp)
  simp [source, sbase] at this ⊢
  simp [this]
theorem source_row {st : St} {i c : Nat} {l : List Int} {kd : RK} (h : st[i]? = some (byR l kd)) : source st 1 (.slice (some ⟨i, 0, some 1⟩) l.length c) = some (l.length, l.map (.int .u8)) := by
  have := rd_u8 (off := 0) (n := l.length * 1) h (by simp)
  simp [source, sbase] at this ⊢
  simp [this]
theorem append_nil {st : St} {l : List Int} (hl : l.length ≤ 140737488355328) : appendCore st 1 1 (.int .u8 0) (.slice none 0 0) (some (l.length, l.map (.int .u8))) = some (rowR st.length l.length, st ++ [byR l (.row 1)], []) := by
  simp only [appendCore, one_u8]
  rw [if_neg (by simp [Value.cells]), if_pos (by omega)]
  rfl
theorem append_row {st : St} {i c : Nat} {a l : List Int} (h : st[i]? = some (byR a (.row 1))) (hl : a.length + l.length ≤ 140737488355328) :
    appendCore st 1 1 (.int .u8 0) (.slice (some ⟨i, 0, some 1⟩) a.length c) (some (l.length, l.map (.int .u8))) = some (rowR st.length (a.length + l.length), st.set i none ++ [byR (a ++ l) (.row 1)], [i]) := by
  simp only [appendCore, one_u8]
  rw [if_neg (by simp [Value.cells])]
  rw [h]
  simp only [byR]
  rw [if_pos ⟨by first | rfl | trivial, by simp, by omega⟩]
  simp [rowR]
theorem make_u8 {st : St} {n : Nat} (h : n ≤ 281474976710656) : makeCore st 1 (.int .u8 0) (n : Int) (n : Int) = some (rowR st.length n, st ++ [byR (List.replicate n 0) (.row 1)], []) := by
  unfold makeCore
  rw [if_pos ⟨by rfl, by simp, by omega, by omega, by omega⟩]
  simp [rowR, byR]
theorem store_u8 {st : St} {i k : Nat} {l : List Int} {kd : RK} {x : Int} (h : st[i]? = some (byR l kd)) (hk : k < l.length) (hkd : kd ≠ .ro) :
    storeCore st i k [.int .u8 x] = some (undef, st.set i (byR (l.set k x) kd), [i]) := by
  unfold storeCore wr
  rw [h]
  simp only [byR]
  rw [if_pos ⟨hkd, by simp; omega, rfl⟩]
  simp [splice, List.map_set]
theorem mapO_plainReg {σ : Sig} : ∀ {l : St}, l.all plainReg = true → mapO (subReg σ) l = some l := by
  intro l
  induction l with
  | nil => intro _; rfl
  | cons x r ih =>
    intro h
    simp only [List.all_cons, Bool.and_eq_true] at h
    have h1 : subReg σ x = some x := by
      cases x with
      | none => rfl
      | some rg =>
        have hp1 : rg.cells.all plain0 = true := h.1
        simp only [subReg, mapO_plain0 hp1]
    simp only [mapO, h1, ih h.2]
/-- The caller is told of some regions, all without addresses. -/
theorem view_plain {P : Program} {f : FuncId} {args : List Value} {st : St} {res : Value} {stF : St} (h : AC P f args st res stF) (ids : List Nat) {res2 : Value} {st2 : St}
    (hids : ids.take st.length = List.range st.length) (hnd : nodupB ids = true) (heq : ids.map (fun id => (stF[id]?).getD none) = st2) (hpl : st2.all plainReg = true) (hres : sub (sigIds ids) res2 = some res) : AC P f args st res2 st2 :=
  h.view ids hids (nodupB_spec hnd) (by rw [heq]; exact mapO_plainReg hpl) hres
end Go.Proofs.Ytggkdjhgknghcaa.Run
