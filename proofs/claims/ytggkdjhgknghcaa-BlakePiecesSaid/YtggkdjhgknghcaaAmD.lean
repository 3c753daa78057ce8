/- This text holds a part of the machinery of the proof, without conditions of its own: the abstract machine: contracts, views, tables of contracts, what a law is handed. -/
import Derived.Test.YtggkdjhgknghcaaAmC
import Derived.Below
import Derived.OpenShut
import Derived.SizedLaws
import Derived.ChangeOld
namespace Go.Proofs.Ytggkdjhgknghcaa.Am

abbrev Sig := List (Option (Nat × Nat))

def sub0 (σ : Sig) : Value → Option Value
  | .pointer (some a) => match a.spot with
    | none => match σ[a.block]? with
      | some (some (id, st)) => some (.pointer (some ⟨id, a.off + st, none⟩))
      | _ => none
    | some _ => none
  | .slice (some a) len c => match a.spot with
    | none => match σ[a.block]? with
      | some (some (id, st)) => some (.slice (some ⟨id, a.off + st, none⟩) len c)
      | _ => none
    | some 1 => if a.off = 0 then match σ[a.block]? with
      | some (some (id, 0)) => some (.slice (some ⟨id, 0, some 1⟩) len c)
      | _ => none else none
    | some 0 => if a.block = 0 ∧ a.off = 0 ∧ len = 0 ∧ c = 0 then some (.slice (some ⟨0, 0, some 0⟩) 0 0) else none
    | some _ => none
  | v => if plain0 v then some v else none

theorem sub0_inv {σ : Sig} {v v' : Value} (h : sub0 σ v = some v') :
    (∃ i off id st, v = .pointer (some ⟨i, off, none⟩) ∧ σ[i]? = some (some (id, st)) ∧ v' = .pointer (some ⟨id, off + st, none⟩)) ∨
    (∃ i off len c id st, v = .slice (some ⟨i, off, none⟩) len c ∧ σ[i]? = some (some (id, st)) ∧ v' = .slice (some ⟨id, off + st, none⟩) len c) ∨
    (∃ i len c id, v = .slice (some ⟨i, 0, some 1⟩) len c ∧ σ[i]? = some (some (id, 0)) ∧ v' = .slice (some ⟨id, 0, some 1⟩) len c) ∨
    (v = .slice (some ⟨0, 0, some 0⟩) 0 0 ∧ v' = .slice (some ⟨0, 0, some 0⟩) 0 0) ∨ (plain0 v = true ∧ v' = v) := by
  unfold sub0 at h
  split at h
  · rename_i a
    obtain ⟨i, off, sp⟩ := a
    simp only at h
    split at h
    · split at h
      · rename_i id st hσ
        simp at h; subst h
        exact .inl ⟨i, off, id, st, rfl, hσ, rfl⟩
      · cases h
    · cases h
  · rename_i a len c
    obtain ⟨i, off, sp⟩ := a
    simp only at h
    split at h
    · split at h
      · rename_i id st hσ
        simp at h; subst h
        exact .inr (.inl ⟨i, off, len, c, id, st, rfl, hσ, rfl⟩)
      · cases h
    · split at h
      · rename_i ho
        subst ho
        split at h
        · rename_i id hσ
          simp at h; subst h
          exact .inr (.inr (.inl ⟨i, len, c, id, rfl, hσ, rfl⟩))
        · cases h
      · cases h
    · split at h
      · rename_i hc
        obtain ⟨rfl, rfl, rfl, rfl⟩ := hc
        simp at h; subst h
        exact .inr (.inr (.inr (.inl ⟨rfl, rfl⟩)))
      · cases h
    · cases h
  · split at h
    · rename_i hp
      simp at h; subst h
      exact .inr (.inr (.inr (.inr ⟨hp, rfl⟩)))
    · cases h

def sub1 (σ : Sig) : Value → Option Value
  | .agg cs => match mapO (sub0 σ) cs.toList with
    | some l => some (.agg l.toArray)
    | none => none
  | v => sub0 σ v

def sub (σ : Sig) : Value → Option Value
  | .tuple cs => match mapO (sub1 σ) cs.toList with
    | some l => some (.tuple l.toArray)
    | none => none
  | v => sub1 σ v

def SigRel (σ : Sig) (μs μb : List Place) : Prop :=
  ∀ (i id st : Nat) p, σ[i]? = some (some (id, st)) → μs[i]? = some p → ∃ q, μb[id]? = some q ∧ p = ⟨q.block, q.off + st, q.lim, q.esz⟩

theorem VR.plain0_any {μ μ' v r} (h : Am.plain0 v = true) (hv : VR μ v r) : VR μ' v r := by
  cases hv with
  | bool b => exact .bool b
  | int k n => exact .int k n
  | string s => exact .string s
  | nilp => exact .nilp
  | nils => exact .nils
  | nilIface => exact .nilIface
  | nilFunc => exact .nilFunc
  | _ => simp [Am.plain0] at h

theorem VRs.plain0_any {μ μ' : List Place} {xs ys : List Value} (h : xs.all Am.plain0 = true) (hv : VRs μ xs ys) : VRs μ' xs ys :=
  ⟨hv.1, fun i x y hx hy => (hv.2 i x y hx hy).plain0_any (List.all_eq_true.1 h x (List.mem_of_getElem? hx))⟩

theorem VR.plain_any {μ μ' v r} (h : Am.plain v = true) (hv : VR μ v r) : VR μ' v r := by
  cases hv with
  | agg xs ys hs hall =>
    have := VRs.plain0_any (μ' := μ') (xs := xs.toList) (ys := ys.toList) h (VRs.of_agg (.agg _ _ hs hall))
    exact .agg _ _ hs fun i x y hx hy => this.2 i x y (by simpa using hx) (by simpa using hy)
  | tuple xs ys hs hall =>
    have := VRs.plain0_any (μ := μ) (μ' := μ') (xs := xs.toList) (ys := ys.toList) h ⟨by simpa using hs, fun i x y hx hy => hall i x y (by simpa using hx) (by simpa using hy)⟩
    exact .tuple _ _ hs fun i x y hx hy => this.2 i x y (by simpa using hx) (by simpa using hy)
  | bool b => exact .bool b
  | int k n => exact .int k n
  | string s => exact .string s
  | nilp => exact .nilp
  | nils => exact .nils
  | nilIface => exact .nilIface
  | nilFunc => exact .nilFunc
  | ptr => simp [Am.plain, Am.plain0] at h
  | slice => simp [Am.plain, Am.plain0] at h
  | slice0 => simp [Am.plain, Am.plain0] at h
  | row0 => simp [Am.plain, Am.plain0] at h
  | row => simp [Am.plain, Am.plain0] at h
  | empty => simp [Am.plain, Am.plain0] at h
  | iface => simp [Am.plain, Am.plain0] at h
  | func => simp [Am.plain, Am.plain0] at h

theorem sub0_fwd {σ : Sig} {μs μb} (hrel : SigRel σ μs μb) {v v' r} (h : sub0 σ v = some v') (hv : VR μs v r) : VR μb v' r := by
  rcases sub0_inv h with ⟨i, off, id, st, rfl, hσ, rfl⟩ | ⟨i, off, len, c, id, st, rfl, hσ, rfl⟩ | ⟨i, len, c, id, rfl, hσ, rfl⟩ | ⟨rfl, rfl⟩ | ⟨hp, rfl⟩
  · obtain ⟨p, hp, rfl⟩ := hv.ptr_inv
    obtain ⟨q, hq, rfl⟩ := hrel i id st p hσ hp
    simp only [Nat.add_assoc, Nat.add_comm st off]
    exact .ptr _ _ q hq
  · cases hv with
    | slice _ _ _ _ c' p hp hc =>
      obtain ⟨q, hq, rfl⟩ := hrel i id st p hσ hp
      simp only [Nat.add_assoc, Nat.add_comm st off]
      exact .slice _ _ _ _ _ q hq hc
    | slice0 => exact .slice0 _ _ _ _
  · cases hv with
    | row _ _ _ c' p hp hc h0 h1 h2 =>
      obtain ⟨q, hq, rfl⟩ := hrel i id 0 p hσ hp
      exact .row _ _ _ _ q hq hc (by simpa using h0) h1 h2
    | row0 => exact .row0 _
  · cases hv with
    | empty a c => exact .empty a c
  · exact hv.plain0_any hp

theorem mapO_fwd {f : Value → Option Value} {μs μb : List Place} (hf : ∀ {v v' r}, f v = some v' → VR μs v r → VR μb v' r) : ∀ {xs xs' ys : List Value}, mapO f xs = some xs' → VRs μs xs ys → VRs μb xs' ys := by
  intro xs
  induction xs with
  | nil => intro xs' ys h hv; simp [mapO] at h; subst h; rw [hv.eq_nil]; exact .nil
  | cons x r ih =>
    intro xs' ys h hv
    simp only [mapO] at h
    split at h
    · rename_i b hb
      split at h
      · rename_i l hl
        simp at h; subst h
        obtain ⟨y, ys', rfl, h1, h2⟩ := hv.uncons
        exact .cons (hf hb h1) (ih hl h2)
      · cases h
    · cases h

theorem sub1_fwd {σ : Sig} {μs μb} (hrel : SigRel σ μs μb) {v v' r} (h : sub1 σ v = some v') (hv : VR μs v r) : VR μb v' r := by
  unfold sub1 at h
  split at h
  · rename_i cs
    split at h
    · rename_i l hl
      simp at h; subst h
      cases hv with
      | agg _ ys hs hall =>
        have := (mapO_fwd (sub0_fwd hrel) hl (VRs.of_agg (.agg _ _ hs hall))).agg
        simpa using this
    · cases h
  · exact sub0_fwd hrel h hv

theorem sub_fwd {σ : Sig} {μs μb} (hrel : SigRel σ μs μb) {v v' r} (h : sub σ v = some v') (hv : VR μs v r) : VR μb v' r := by
  unfold sub at h
  split at h
  · rename_i cs
    split at h
    · rename_i l hl
      simp at h; subst h
      cases hv with
      | tuple _ ys hs hall =>
        have := (mapO_fwd (sub1_fwd hrel) hl (show VRs μs cs.toList ys.toList from ⟨by simpa using hs, fun i x y hx hy => hall i x y (by simpa using hx) (by simpa using hy)⟩)).tuple
        simpa using this
    · cases h
  · exact sub1_fwd hrel h hv

/-! ### What a call hands over -/
inductive AK where
  | val
  | ptr (n : Nat) (w : Bool)
  | sl (w : Bool)
  | slN (n : Nat) (w : Bool)
  /-- Alone: all of memory is handed over as it is. -/
  | whole

structure Fp where
  id : Nat
  start : Nat
  len : Nat
  w : Bool

/-- 'e': a region without cells, for slices without places. -/
def pick1 (e idx : Nat) : AK → Value → Option (Value × Option Fp)
  | .val, v => if plain v then some (v, none) else none
  | .ptr n w, .pointer (some ⟨i, off, none⟩) => some (.pointer (some ⟨idx, 0, none⟩), some ⟨i, off, n, w⟩)
  | .ptr _ _, .pointer none => some (.pointer none, none)
  | .sl w, .slice a len c => match sbase a with
    | some (i, off) => if len ≤ c then some (.slice (some ⟨idx, 0, none⟩) len len, some ⟨i, off, len, w⟩) else none
    | none => if len = 0 then some (.slice (some ⟨idx, 0, none⟩) 0 0, some ⟨e, 0, 0, w⟩) else none
  | .slN n w, .slice a len c => match sbase a with
    | some (i, off) => some (.slice (some ⟨idx, 0, none⟩) len c, some ⟨i, off, n, w⟩)
    | none => none
  | _, _ => none

def picks (e : Nat) : List AK → Nat → List Value → Option (List Value × List (Option Fp))
  | [], _, [] => some ([], [])
  | k :: ks, i, v :: vs => match pick1 e i k v with
    | some (s, f) => match picks e ks (i + 1) vs with
      | some (ss, fs) => some (s :: ss, f :: fs)
      | none => none
    | none => none
  | _, _, _ => none

def bare : AK → Value → Bool
  | .sl _, .slice a _ _ => match sbase a with
    | some _ => false
    | none => true
  | _, _ => false
def bares : List AK → List Value → Bool
  | k :: ks, v :: vs => bare k v || bares ks vs
  | _, _ => false

def smalls (st : St) : List (Option Fp) → Option St
  | [] => some []
  | none :: r => match smalls st r with
    | some l => some (none :: l)
    | none => none
  | some f :: r => match st[f.id]? with
    | some (some rg) => if f.start + f.len ≤ rg.cells.length ∧ ((rg.cells.drop f.start).take f.len).all plain0 = true ∧ (f.w = true → rg.kind ≠ .ro) then match smalls st r with
      | some l => some (some ⟨(rg.cells.drop f.start).take f.len, if f.w then .rw else .ro⟩ :: l)
      | none => none else none
    | _ => none

def disj1 (a b : Fp) : Bool := !(a.w || b.w) || a.id != b.id || decide (a.start + a.len ≤ b.start) || decide (b.start + b.len ≤ a.start)
def disjFps : List (Option Fp) → Bool
  | [] => true
  | none :: r => disjFps r
  | some a :: r => r.all (fun x => match x with | none => true | some b => disj1 a b) && disjFps r

def wb : St → List (Option Fp) → St → Option St
  | s, [], _ => some s
  | s, none :: r, _ :: q => wb s r q
  | s, some f :: r, x :: q => if f.w then match x with
      | some rg => if rg.cells.length = f.len ∧ rg.cells.all plain0 = true then match wr s f.id f.start rg.cells with
        | some s' => wb s' r q
        | none => none else none
      | none => none else wb s r q
  | _, _ :: _, [] => none

def subReg (σ : Sig) : Option Reg → Option (Option Reg)
  | none => some none
  | some r => match mapO (sub0 σ) r.cells with
    | some cs => some (some ⟨cs, r.kind⟩)
    | none => none

def sigOf (fps : List (Option Fp)) (m : Nat) (news : Nat) : Sig := (fps.map fun f => match f with | some f => some (f.id, f.start) | none => none) ++ (List.range news).map fun j => some (m + j, 0)

def gcall0 (e : Nat) (ks : List AK) (spec : List Value → St → Option (Value × St)) (args : List Value) (st : St) : Option (Value × St) :=
  match picks e ks 0 args with
  | some (sargs, fps) => match smalls st fps with
    | some sst => if disjFps fps then match spec sargs sst with
      | some (res, sst') => match wb st fps (sst'.take fps.length) with
        | some st1 => match mapO (subReg (sigOf fps st.length (sst'.length - fps.length))) (sst'.drop fps.length), sub (sigOf fps st.length (sst'.length - fps.length)) res with
          | some news, some res' => some (res', st1 ++ news)
          | _, _ => none
        | none => none
      | none => none else none
    | none => none
  | none => none

def gfoot0 (e : Nat) (ks : List AK) (args : List Value) : List Nat :=
  match picks e ks 0 args with
  | some (_, fps) => fps.filterMap fun f => match f with | some f => if f.w then some f.id else none | none => none
  | none => []

/-- A slice without places is handed over as one of a region without cells (which comes to be for the call). -/
def gcall (ks : List AK) (spec : List Value → St → Option (Value × St)) (args : List Value) (st : St) : Option (Value × St) :=
  if bares ks args then gcall0 st.length ks spec args (st ++ [some ⟨[], .rw⟩]) else gcall0 0 ks spec args st
def gfoot (ks : List AK) (args : List Value) (st : St) : List Nat :=
  if bares ks args then gfoot0 st.length ks args else gfoot0 0 ks args

def readIds : List (Option Fp) → Option (List Nat)
  | [] => some []
  | none :: r => readIds r
  | some f :: r => if f.w then none else match readIds r with
    | some l => some (f.id :: l)
    | none => none
/-- The regions that a call looks at, if it writes none. -/
def greads (ks : List AK) (args : List Value) : Option (List Nat) :=
  if bares ks args then none else match picks 0 ks 0 args with
  | some (_, fps) => readIds fps
  | none => none

end Go.Proofs.Ytggkdjhgknghcaa.Am

namespace Go.Proofs.Ytggkdjhgknghcaa.Am

def dflt : Place := ⟨0, 0, 0, 0⟩
def placeOf (μ : List Place) : Option Fp → Place
  | some f => match μ[f.id]? with
    | some p => ⟨p.block, p.off + f.start, p.lim, p.esz⟩
    | none => dflt
  | none => dflt

theorem pick1_sound {k : AK} {e idx : Nat} {v s r : Value} {f : Option Fp} {μ μs : List Place} (h : pick1 e idx k v = some (s, f)) (hv : VR μ v r) (hp : μs[idx]? = some (placeOf μ f)) : VR μs s r := by
  unfold pick1 at h
  split at h
  · split at h
    · rename_i hpl
      simp at h; obtain ⟨rfl, rfl⟩ := h
      exact hv.plain_any hpl
    · cases h
  · rename_i n w i off
    simp at h; obtain ⟨rfl, rfl⟩ := h
    obtain ⟨p, hpp, rfl⟩ := hv.ptr_inv
    have := VR.ptr (μ := μs) idx 0 _ hp
    simpa [placeOf, hpp] using this
  · simp at h; obtain ⟨rfl, rfl⟩ := h
    cases hv; exact .nilp
  · rename_i w a len c
    split at h
    · rename_i i off hb
      split at h
      · rename_i hlc
        simp at h; obtain ⟨rfl, rfl⟩ := h
        obtain ⟨p, c', hpp, hc, rfl⟩ | ⟨rfl, -, a', c', rfl⟩ := hv.sbase hb
        · have := VR.slice (μ := μs) idx 0 len len c' _ hp (by omega)
          simpa [placeOf, hpp] using this
        · exact .slice0 _ _ _ _
      · cases h
    · split at h
      · rename_i hl
        simp at h; obtain ⟨rfl, rfl⟩ := h
        subst hl
        cases hv <;> exact .slice0 _ _ _ _
      · cases h
  · rename_i n w a len c
    split at h
    · rename_i i off hb
      simp at h; obtain ⟨rfl, rfl⟩ := h
      obtain ⟨p, c', hpp, hc, rfl⟩ | ⟨rfl, rfl, a', c', rfl⟩ := hv.sbase hb
      · have := VR.slice (μ := μs) idx 0 len c c' _ hp hc
        simpa [placeOf, hpp] using this
      · exact .slice0 _ _ _ _
    · cases h
  · cases h

theorem picks_sound {e : Nat} {μ μs : List Place} : ∀ {ks : List AK} {idx : Nat} {vs ss rs : List Value} {fs : List (Option Fp)}, picks e ks idx vs = some (ss, fs) → VRs μ vs rs →
    (∀ (j : Nat) f, fs[j]? = some f → μs[idx + j]? = some (placeOf μ f)) → VRs μs ss rs := by
  intro ks
  induction ks with
  | nil =>
    intro idx vs ss rs fs h hv hp
    cases vs with
    | nil => simp [picks] at h; obtain ⟨rfl, rfl⟩ := h; rw [hv.eq_nil]; exact .nil
    | cons v r => simp [picks] at h
  | cons k ks ih =>
    intro idx vs ss rs fs h hv hp
    cases vs with
    | nil => simp [picks] at h
    | cons v r =>
      simp only [picks] at h
      split at h
      · rename_i s f h1
        split at h
        · rename_i ss2 fs2 h2
          simp at h; obtain ⟨rfl, rfl⟩ := h
          obtain ⟨y, ys, rfl, hv1, hv2⟩ := hv.uncons
          refine .cons (pick1_sound h1 hv1 (by simpa using hp 0 f rfl)) (ih h2 hv2 fun j f hj => ?_)
          have := hp (j + 1) f (by simpa using hj)
          rw [show idx + 1 + j = idx + (j + 1) from by omega]; exact this
        · cases h
      · cases h

theorem smalls_spec {st : St} : ∀ {fps : List (Option Fp)} {sst : St}, smalls st fps = some sst → sst.length = fps.length ∧
    ∀ (j : Nat) r, sst[j]? = some (some r) → ∃ f rb, fps[j]? = some (some f) ∧ st[f.id]? = some (some rb) ∧ f.start + f.len ≤ rb.cells.length ∧ r.cells = (rb.cells.drop f.start).take f.len ∧
      r.cells.all plain0 = true ∧ (f.w = true → rb.kind ≠ .ro) ∧ r.kind = (if f.w then .rw else .ro) := by
  intro fps
  induction fps with
  | nil => intro sst h; simp [smalls] at h; subst h; exact ⟨rfl, fun j r h => by simp at h⟩
  | cons f fs ih =>
    intro sst h
    cases f with
    | none =>
      simp only [smalls] at h
      split at h
      · rename_i l hl
        simp at h; subst h
        obtain ⟨h1, h2⟩ := ih hl
        refine ⟨by simp [h1], fun j r hj => ?_⟩
        cases j with
        | zero => simp at hj
        | succ j => simpa using h2 j r (by simpa using hj)
      · cases h
    | some f =>
      simp only [smalls] at h
      split at h
      · rename_i rg hrg
        split at h
        · rename_i hc
          split at h
          · rename_i l hl
            simp at h; subst h
            obtain ⟨h1, h2⟩ := ih hl
            refine ⟨by simp [h1], fun j r hj => ?_⟩
            cases j with
            | zero =>
              simp at hj; subst hj
              exact ⟨f, rg, rfl, hrg, hc.1, rfl, hc.2.1, hc.2.2, rfl⟩
            | succ j => simpa using h2 j r (by simpa using hj)
          · cases h
        · cases h
      · cases h

theorem disjFps_spec : ∀ {fps : List (Option Fp)}, disjFps fps = true → ∀ (i j : Nat) a b, i ≠ j → fps[i]? = some (some a) → fps[j]? = some (some b) → (a.w = true ∨ b.w = true) →
    a.id ≠ b.id ∨ a.start + a.len ≤ b.start ∨ b.start + b.len ≤ a.start := by
  have d1 : ∀ a b, disj1 a b = true → (a.w = true ∨ b.w = true) → a.id ≠ b.id ∨ a.start + a.len ≤ b.start ∨ b.start + b.len ≤ a.start := by
    intro a b h hw
    simp only [disj1, Bool.or_eq_true, Bool.not_eq_true', bne_iff_ne, ne_eq, decide_eq_true_eq, Bool.or_eq_false_iff] at h
    rcases h with ((h | h) | h) | h
    · rcases hw with hw | hw
      · rw [hw] at h; simp at h
      · rw [hw] at h; simp at h
    · exact .inl h
    · exact .inr (.inl h)
    · exact .inr (.inr h)
  intro fps
  induction fps with
  | nil => intro _ i j a b _ h; simp at h
  | cons f fs ih =>
    intro h i j a b hij ha hb hw
    cases f with
    | none =>
      simp only [disjFps] at h
      cases i with
      | zero => simp at ha
      | succ i => cases j with
        | zero => simp at hb
        | succ j => exact ih h i j a b (by omega) (by simpa using ha) (by simpa using hb) hw
    | some f =>
      simp only [disjFps, Bool.and_eq_true] at h
      cases i with
      | zero =>
        simp at ha; subst ha
        cases j with
        | zero => exact absurd rfl hij
        | succ j =>
          have := List.all_eq_true.1 h.1 (some b) (List.mem_of_getElem? (by simpa using hb))
          exact d1 _ _ this hw
      | succ i =>
        cases j with
        | zero =>
          simp at hb; subst hb
          have := List.all_eq_true.1 h.1 (some a) (List.mem_of_getElem? (by simpa using ha))
          rcases d1 _ _ this hw.symm with h | h | h
          · exact .inl fun e => h e.symm
          · exact .inr (.inr h)
          · exact .inr (.inl h)
        | succ j => exact ih h.2 i j a b (by omega) (by simpa using ha) (by simpa using hb) hw

theorem splice_get {l vs : List Value} {k : Nat} (h : k + vs.length ≤ l.length) (j : Nat) {v : Value} (hv : (splice l k vs)[j]? = some v) :
    (k ≤ j ∧ j < k + vs.length ∧ vs[j - k]? = some v) ∨ (¬ (k ≤ j ∧ j < k + vs.length) ∧ l[j]? = some v) := by
  rw [splice_eq _ _ _ h, putMany_eq _ _ _ (by omega)] at hv
  by_cases h1 : j < k
  · right
    refine ⟨by omega, ?_⟩
    rw [List.append_assoc, List.getElem?_append_left (by simp; omega), List.getElem?_take, if_pos h1] at hv
    exact hv
  · rw [List.append_assoc, List.getElem?_append_right (by simp; omega)] at hv
    rw [List.length_take, Nat.min_eq_left (by omega)] at hv
    by_cases h2 : j - k < vs.length
    · rw [List.getElem?_append_left h2] at hv
      exact .inl ⟨by omega, by omega, hv⟩
    · right
      rw [List.getElem?_append_right (by omega), List.getElem?_drop] at hv
      refine ⟨by omega, ?_⟩
      rw [show k + vs.length + (j - k - vs.length) = j from by omega] at hv
      exact hv
theorem splice_length {l vs : List Value} {k : Nat} (h : k + vs.length ≤ l.length) : (splice l k vs).length = l.length := by
  rw [splice_eq _ _ _ h, putMany_eq _ _ _ (by omega)]
  simp; omega

theorem wr_spec {st st' : St} {i off : Nat} {vs : List Value} (h : wr st i off vs = some st') : st'.length = st.length ∧ ∀ (id : Nat) r', st'[id]? = some (some r') → ∃ r, st[id]? = some (some r) ∧ r'.kind = r.kind ∧ r'.cells.length = r.cells.length ∧
    ∀ (k : Nat) v, r'.cells[k]? = some v → (i = id ∧ off ≤ k ∧ k < off + vs.length ∧ vs[k - off]? = some v) ∨ (¬ (i = id ∧ off ≤ k ∧ k < off + vs.length) ∧ r.cells[k]? = some v) := by
  unfold wr at h
  split at h
  · rename_i r hr
    split at h
    · rename_i hc
      simp at h; subst h
      refine ⟨by simp, fun id r' hr' => ?_⟩
      rcases getElem?_set_reg hr' with ⟨rfl, he, _⟩ | ⟨hne, hr2⟩
      · cases he
        refine ⟨r, hr, rfl, splice_length hc.2.1, fun k v hv => ?_⟩
        rcases splice_get hc.2.1 k hv with ⟨a, b, c⟩ | ⟨a, b⟩
        · exact .inl ⟨rfl, a, b, c⟩
        · exact .inr ⟨fun h => a h.2, b⟩
      · exact ⟨r', hr2, rfl, rfl, fun k v hv => .inr ⟨fun h => hne h.1.symm, hv⟩⟩
    · cases h
  · cases h

theorem wb_spec : ∀ {fps : List (Option Fp)} {s q s' : St}, wb s fps q = some s' → s'.length = s.length ∧ ∀ (id : Nat) r', s'[id]? = some (some r') → ∃ r, s[id]? = some (some r) ∧ r'.kind = r.kind ∧ r'.cells.length = r.cells.length ∧
    ∀ (k : Nat) v, r'.cells[k]? = some v →
      (∃ (j : Nat) (f : Fp) (rg : Reg), fps[j]? = some (some f) ∧ f.w = true ∧ f.id = id ∧ f.start ≤ k ∧ k < f.start + f.len ∧ q[j]? = some (some rg) ∧ rg.cells[k - f.start]? = some v ∧ plain0 v = true) ∨
      ((∀ (j : Nat) f, fps[j]? = some (some f) → f.w = true → f.id = id → ¬ (f.start ≤ k ∧ k < f.start + f.len)) ∧ r.cells[k]? = some v) := by
  intro fps
  induction fps with
  | nil =>
    intro s q s' h
    simp [wb] at h; subst h
    exact ⟨rfl, fun id r' hr => ⟨r', hr, rfl, rfl, fun k v hv => .inr ⟨fun j f hj => by simp at hj, hv⟩⟩⟩
  | cons f fs ih =>
    intro s q s' h
    have skip : ∀ {q1 : Option Reg} {q2 : St} {s1 : St}, wb s1 fs q2 = some s' → (∀ a, f = some a → a.w = false) → q = q1 :: q2 → s1 = s → s'.length = s.length ∧ ∀ (id : Nat) r', s'[id]? = some (some r') → ∃ r, s[id]? = some (some r) ∧ r'.kind = r.kind ∧ r'.cells.length = r.cells.length ∧
        ∀ (k : Nat) v, r'.cells[k]? = some v →
          (∃ (j : Nat) (f' : Fp) (rg : Reg), (f :: fs)[j]? = some (some f') ∧ f'.w = true ∧ f'.id = id ∧ f'.start ≤ k ∧ k < f'.start + f'.len ∧ q[j]? = some (some rg) ∧ rg.cells[k - f'.start]? = some v ∧ plain0 v = true) ∨
          ((∀ (j : Nat) f', (f :: fs)[j]? = some (some f') → f'.w = true → f'.id = id → ¬ (f'.start ≤ k ∧ k < f'.start + f'.len)) ∧ r.cells[k]? = some v) := by
      intro q1 q2 s1 hh hf hq hs
      clear h
      subst hq; subst hs
      obtain ⟨h1, h2⟩ := ih hh
      refine ⟨h1, fun id r' hr' => ?_⟩
      obtain ⟨r, a, b, c, d⟩ := h2 id r' hr'
      refine ⟨r, a, b, c, fun k v hv => ?_⟩
      rcases d k v hv with ⟨j, f', rg, e1, e2⟩ | ⟨e1, e2⟩
      · exact .inl ⟨j + 1, f', rg, by simpa using e1, by simpa using e2⟩
      · refine .inr ⟨fun j f' hj hw => ?_, e2⟩
        cases j with
        | zero => simp at hj; rw [hf f' hj] at hw; cases hw
        | succ j => exact e1 j f' (by simpa using hj) hw
    cases q with
    | nil => cases f <;> simp [wb] at h
    | cons x q =>
      cases f with
      | none => simp only [wb] at h; exact skip h (fun a h => by cases h) rfl rfl
      | some f =>
        simp only [wb] at h
        split at h
        · rename_i hw
          split at h
          · rename_i rg
            split at h
            · rename_i hc
              split at h
              · rename_i s1 hwr
                obtain ⟨w1, w2⟩ := wr_spec hwr
                obtain ⟨h1, h2⟩ := ih h
                refine ⟨h1.trans w1, fun id r' hr' => ?_⟩
                obtain ⟨r1, a, b, c, d⟩ := h2 id r' hr'
                obtain ⟨r, a', b', c', d'⟩ := w2 id r1 a
                refine ⟨r, a', b.trans b', c.trans c', fun k v hv => ?_⟩
                rcases d k v hv with ⟨j, f', rg', e1, e2⟩ | ⟨e1, e2⟩
                · exact .inl ⟨j + 1, f', rg', by simpa using e1, by simpa using e2⟩
                · rcases d' k v e2 with ⟨g1, g2, g3, g4⟩ | ⟨g1, g2⟩
                  · refine .inl ⟨0, f, rg, rfl, hw, g1, g2, by omega, rfl, g4, List.all_eq_true.1 hc.2 v (List.mem_of_getElem? g4)⟩
                  · refine .inr ⟨fun j f' hj hw' hid => ?_, g2⟩
                    cases j with
                    | zero =>
                      simp at hj; subst hj
                      rw [hc.1] at g1
                      exact fun hh => g1 ⟨hid, hh⟩
                    | succ j => exact e1 j f' (by simpa using hj) hw' hid
              · cases h
            · cases h
          · cases h
        · rename_i hw
          exact skip h (fun a h => by cases h; simpa using hw) rfl rfl

theorem mapO_get {α β : Type} {f : α → Option β} : ∀ {l : List α} {m : List β}, mapO f l = some m → m.length = l.length ∧ ∀ (i : Nat) b, m[i]? = some b → ∃ a, l[i]? = some a ∧ f a = some b := by
  intro l
  induction l with
  | nil => intro m h; simp [mapO] at h; subst h; exact ⟨rfl, fun i b h => by simp at h⟩
  | cons a r ih =>
    intro m h
    simp only [mapO] at h
    split at h
    · rename_i b hb
      split at h
      · rename_i l' hl
        simp at h; subst h
        obtain ⟨h1, h2⟩ := ih hl
        refine ⟨by simp [h1], fun i c hc => ?_⟩
        cases i with
        | zero => simp at hc; subst hc; exact ⟨a, rfl, hb⟩
        | succ i => simpa using h2 i c (by simpa using hc)
      · cases h
    · cases h

theorem gcall0_sound {P : Program} {f : FuncId} {e0 : Nat} {ks : List AK} {spec : List Value → St → Option (Value × St)}
    (hspec : ∀ a s r s', spec a s = some (r, s') → AC P f a s r s') {args : List Value} {st : St} {res : Value} {st' : St} (h : gcall0 e0 ks spec args st = some (res, st')) :
    AC P f args st res st' ∧ ∀ r, r < st.length → r ∉ gfoot0 e0 ks args → st'[r]? = st[r]? := by
  unfold gcall0 at h
  split at h
  · rename_i sargs fps hpk
    split at h
    · rename_i sst hsm
      split at h
      · rename_i hdj
        split at h
        · rename_i sres sst' hsp
          split at h
          · rename_i st1 hwb
            split at h
            · rename_i news res' hnews hres
              simp at h; obtain ⟨rfl, rfl⟩ := h
              obtain ⟨hsl, hsr⟩ := smalls_spec hsm
              obtain ⟨hwl, hwr⟩ := wb_spec hwb
              obtain ⟨hnl, hng⟩ := mapO_get hnews
              refine ⟨?_, ?_⟩
              · intro μ w rargs hargs hG
                -- the small memory
                have hμl := hG.len
                generalize hμs : fps.map (placeOf μ) = μs
                have hμsl : μs.length = fps.length := by rw [← hμs]; simp
                have hμsg : ∀ (j : Nat) f, fps[j]? = some f → μs[j]? = some (placeOf μ f) := by
                  intro j f hj; rw [← hμs, List.getElem?_map, hj]; rfl
                have hplace : ∀ (j : Nat) f p, fps[j]? = some (some f) → μ[f.id]? = some p → μs[j]? = some ⟨p.block, p.off + f.start, p.lim, p.esz⟩ := by
                  intro j f p hj hp; rw [hμsg j _ hj]; simp [placeOf, hp]
                have hlive : ∀ {id : Nat} {r : Reg}, st[id]? = some (some r) → ∃ p, μ[id]? = some p := by
                  intro id r hr
                  have := (List.getElem?_eq_some_iff.1 hr).1
                  exact ⟨μ[id]'(by omega), List.getElem?_eq_getElem _⟩
                have hvs : VRs μs sargs rargs.toList := picks_sound hpk hargs fun j f hj => by rw [Nat.zero_add]; exact hμsg j f hj
                have hcov : ∀ {j : Nat} {r : Reg} {p : Place} {f : Fp} {rb : Reg} {pb : Place}, sst[j]? = some (some r) → fps[j]? = some (some f) → st[f.id]? = some (some rb) → μ[f.id]? = some pb → μs[j]? = some p →
                    r.cells.length = f.len ∧ f.start + f.len ≤ rb.cells.length ∧ p = ⟨pb.block, pb.off + f.start, pb.lim, pb.esz⟩ ∧
                    (∀ b k, inside p r b k → b = pb.block ∧ pb.off + f.start ≤ k ∧ k < pb.off + f.start + f.len ∧ inside pb rb b k) ∧ (∀ b k, covers p r b k → f.w = true ∧ covers pb rb b k) := by
                  intro j r p f rb pb hj hf hrb hpb hp
                  obtain ⟨f', rb', h1, h2, h3, h4, h5, h6, h7⟩ := hsr j r hj
                  rw [hf] at h1; cases h1
                  rw [hrb] at h2; cases h2
                  have hpe := hplace j f pb hf hpb
                  rw [hp] at hpe; cases hpe
                  have hlen : r.cells.length = f.len := by rw [h4]; simp; omega
                  have hnr : ∀ e, r.kind ≠ .row e := by intro e; rw [h7]; split <;> simp
                  have hin : ∀ b k, inside ⟨pb.block, pb.off + f.start, pb.lim, pb.esz⟩ r b k → b = pb.block ∧ pb.off + f.start ≤ k ∧ k < pb.off + f.start + f.len ∧ inside pb rb b k := by
                    intro b k ⟨e1, e2⟩
                    rcases e2 with ⟨⟨e, he⟩, _⟩ | ⟨e2, e3⟩
                    · exact absurd he (hnr e)
                    · simp only at e1 e2 e3
                      exact ⟨e1.symm, by omega, by omega, e1, .inr ⟨by omega, by omega⟩⟩
                  refine ⟨hlen, h3, rfl, hin, fun b k ⟨c1, c2, c3⟩ => ?_⟩
                  have hw : f.w = true := by
                    rw [h7] at c1
                    cases hfw : f.w with
                    | true => rfl
                    | false => rw [hfw] at c1; exact absurd rfl c1
                  have := hin b k ⟨c2, c3⟩
                  exact ⟨hw, h6 hw, this.2.2.2⟩
                have hGs : Good μs sst w := by
                  refine ⟨by omega, ?_, ?_⟩
                  · intro j r p hj hp
                    obtain ⟨f, rb, h1, h2, h3, h4, h5, h6, h7⟩ := hsr j r hj
                    obtain ⟨pb, hpb⟩ := hlive h2
                    obtain ⟨c1, c2, rfl, c4, c5⟩ := hcov hj h1 h2 hpb hp
                    obtain ⟨g1, g2, g3⟩ := hG.ok _ _ _ h2 hpb
                    refine ⟨fun b k hin => by exact g1 b k (c4 b k hin).2.2.2, fun k v hv => ?_, ?_⟩
                    · have hv0 := hv
                      rw [h4, List.getElem?_take] at hv
                      split at hv
                      · rw [List.getElem?_drop] at hv
                        obtain ⟨v', e1, e2⟩ := g2 _ v hv
                        refine ⟨v', by simp only; rw [Nat.add_assoc]; exact e1, e2.plain0_any (List.all_eq_true.1 h5 v (List.mem_of_getElem? hv0))⟩
                      · cases hv
                    · cases hw : f.w with
                      | false => rw [hw] at h7; rw [h7]; trivial
                      | true =>
                        rw [hw] at h7; rw [h7]
                        intro k hk
                        simp only
                        cases hk2 : rb.kind with
                        | ro => exact absurd hk2 (h6 hw)
                        | rw => rw [hk2] at g3; rw [Nat.add_assoc]; exact g3 _ (by omega)
                        | row e =>
                          rw [hk2] at g3
                          obtain ⟨_, _, _, hl3, hx | ⟨cs, t, hh, _⟩⟩ := g3
                          · omega
                          · exact frozen_of hh
                  · intro i j r r' p p' hij hi hj hp hp' b k hcv hin
                    obtain ⟨f, rb, h1, h2, h3, h4, h5, h6, h7⟩ := hsr i r hi
                    obtain ⟨f', rb', k1, k2, k3, k4, k5, k6, k7⟩ := hsr j r' hj
                    obtain ⟨pb, hpb⟩ := hlive h2
                    obtain ⟨pb', hpb'⟩ := hlive k2
                    obtain ⟨c1, c2, rfl, c4, c5⟩ := hcov hi h1 h2 hpb hp
                    obtain ⟨d1, d2, rfl, d4, d5⟩ := hcov hj k1 k2 hpb' hp'
                    obtain ⟨hw, hcb⟩ := c5 b k hcv
                    obtain ⟨i1, i2, i3, i4⟩ := d4 b k hin
                    obtain ⟨j1, j2, j3, j4⟩ := c4 b k hcv.2
                    rcases disjFps_spec hdj i j f f' hij h1 k1 (.inl hw) with hd | hd
                    · exact hG.sep _ _ _ _ _ _ hd h2 k2 hpb hpb' b k hcb i4
                    · by_cases hid : f.id = f'.id
                      · rw [← hid] at hpb'
                        rw [hpb] at hpb'; cases hpb'
                        omega
                      · exact hG.sep _ _ _ _ _ _ hid h2 k2 hpb hpb' b k hcb i4
                have hTouch : ∀ b k, Touch μs sst b k → Touch μ st b k := by
                  intro b k ⟨i, r, p, hi, hp, hc⟩
                  obtain ⟨f, rb, h1, h2, _⟩ := hsr i r hi
                  obtain ⟨pb, hpb⟩ := hlive h2
                  obtain ⟨_, _, rfl, _, c5⟩ := hcov hi h1 h2 hpb hp
                  exact ⟨f.id, rb, pb, h2, hpb, (c5 b k hc).2⟩
                refine (hspec _ _ _ _ hsp μs w rargs hvs hGs).mono ?_
                rintro e w' ⟨μs', v, rfl, hv, hext, hA⟩
                have hs'l : μs'.length = sst'.length := hA.good.len
                have hle : fps.length ≤ sst'.length := by
                  rw [← hs'l]
                  apply Decidable.byContradiction
                  intro hlt
                  have h1 := hext μs'.length (μs[μs'.length]'(by omega)) (List.getElem?_eq_getElem _)
                  have := (List.getElem?_eq_some_iff.1 h1).1
                  omega
                generalize hμ' : μ ++ μs'.drop fps.length = μ'
                have hold : ∀ {i : Nat} {p}, μ[i]? = some p → μ'[i]? = some p := by
                  intro i p hp; rw [← hμ', List.getElem?_append_left (List.getElem?_eq_some_iff.1 hp).1]; exact hp
                have hold' : ∀ {i : Nat} {p}, i < st.length → μ'[i]? = some p → μ[i]? = some p := by
                  intro i p hi hp; rw [← hμ', List.getElem?_append_left (by omega)] at hp; exact hp
                have hnew : ∀ (j : Nat), μ'[st.length + j]? = μs'[fps.length + j]? := by
                  intro j; rw [← hμ', List.getElem?_append_right (by omega), List.getElem?_drop]; congr 1; omega
                have hrel : SigRel (sigOf fps st.length (sst'.length - fps.length)) μs' μ' := by
                  intro i id stt p hσ hp
                  unfold sigOf at hσ
                  rw [List.getElem?_append] at hσ
                  split at hσ
                  · rename_i hi
                    rw [List.getElem?_map] at hσ
                    cases hf : fps[i]? with
                    | none => rw [hf] at hσ; simp at hσ
                    | some f =>
                      rw [hf] at hσ
                      cases f with
                      | none => simp at hσ
                      | some f =>
                        simp at hσ; obtain ⟨rfl, rfl⟩ := hσ
                        cases hpb : μ[f.id]? with
                        | none =>
                          have h1 := hext i _ (hμsg i _ hf)
                          exfalso
                          -- a region that was handed over is there
                          have : ∃ r, sst[i]? = some r := by
                            have : i < sst.length := by rw [hsl]; exact (List.getElem?_eq_some_iff.1 hf).1
                            exact ⟨sst[i], List.getElem?_eq_getElem this⟩
                          obtain ⟨r, hr⟩ := this
                          have key : ∀ {fps : List (Option Fp)} {sst : St}, smalls st fps = some sst → ∀ (j : Nat) f, fps[j]? = some (some f) → ∃ r, sst[j]? = some (some r) := by
                            intro fps
                            induction fps with
                            | nil => intro sst h j f hj; simp at hj
                            | cons g gs ih =>
                              intro sst h j f hj
                              cases g with
                              | none =>
                                simp only [smalls] at h
                                split at h
                                · rename_i l hl
                                  simp at h; subst h
                                  cases j with
                                  | zero => simp at hj
                                  | succ j => simpa using ih hl j f (by simpa using hj)
                                · cases h
                              | some g =>
                                simp only [smalls] at h
                                split at h
                                · split at h
                                  · split at h
                                    · rename_i l hl
                                      simp at h; subst h
                                      cases j with
                                      | zero => exact ⟨_, rfl⟩
                                      | succ j => simpa using ih hl j f (by simpa using hj)
                                    · cases h
                                  · cases h
                                · cases h
                          obtain ⟨r, hr⟩ := key hsm i f hf
                          obtain ⟨f2, rb, g1, g2, _⟩ := hsr i r hr
                          rw [hf] at g1; cases g1
                          obtain ⟨pb, hpb2⟩ := hlive g2
                          rw [hpb] at hpb2; cases hpb2
                        | some pb =>
                          have h1 := hext i _ (hplace i f pb hf hpb)
                          rw [hp] at h1; cases h1
                          exact ⟨pb, hold hpb, rfl⟩
                  · rename_i hi
                    simp at hi
                    rw [List.getElem?_map] at hσ
                    simp only [List.length_map] at hσ
                    cases hf : (List.range (sst'.length - fps.length))[i - fps.length]? with
                    | none => rw [hf] at hσ; simp at hσ
                    | some j =>
                      rw [hf] at hσ
                      have hj : j = i - fps.length := by
                        have := (List.getElem?_eq_some_iff.1 hf).1
                        rw [List.getElem?_range (by simpa using this)] at hf; simpa using hf.symm
                      subst hj
                      simp at hσ; obtain ⟨rfl, rfl⟩ := hσ
                      refine ⟨p, ?_, by simp⟩
                      rw [hnew, show fps.length + (i - fps.length) = i from by omega]; exact hp
                have hres' := sub_fwd hrel hres hv
                refine ⟨μ', v, rfl, hres', fun i p hp => hold hp, ?_⟩
                have hst1 : st1.length = st.length := hwl
                have hnl' : news.length = sst'.length - fps.length := by rw [hnl]; simp
                -- the regions behind the call
                have hreg : ∀ {i : Nat} {r : Reg}, (st1 ++ news)[i]? = some (some r) → (i < st.length ∧ st1[i]? = some (some r)) ∨
                    (st.length ≤ i ∧ ∃ rs, sst'[fps.length + (i - st.length)]? = some (some rs) ∧ r.kind = rs.kind ∧ mapO (sub0 (sigOf fps st.length (sst'.length - fps.length))) rs.cells = some r.cells) := by
                  intro i r hr
                  rw [List.getElem?_append] at hr
                  split at hr
                  · exact .inl ⟨by omega, hr⟩
                  · rename_i hi
                    right
                    refine ⟨by omega, ?_⟩
                    obtain ⟨a, ha, hsub⟩ := hng _ _ hr
                    rw [List.getElem?_drop, hst1] at ha
                    cases a with
                    | none => simp [subReg] at hsub
                    | some rs =>
                      simp only [subReg] at hsub
                      split at hsub
                      · rename_i cs hcs
                        simp at hsub; subst hsub
                        exact ⟨rs, ha, rfl, hcs⟩
                      · cases hsub
                have hins : ∀ {i : Nat} {r r0 : Reg} {p : Place} {b k : Nat}, r.kind = r0.kind → r.cells.length = r0.cells.length → (inside p r b k ↔ inside p r0 b k) ∧ (covers p r b k ↔ covers p r0 b k) := by
                  intro i r r0 p b k h1 h2
                  unfold inside covers
                  rw [h1, h2]; exact ⟨Iff.rfl, Iff.rfl⟩
                have hTs : ∀ {i : Nat} {r0 : Reg} {p : Place} {k : Nat}, st[i]? = some (some r0) → μ[i]? = some p → k < r0.cells.length → Touch μs sst p.block (p.off + k) →
                    ∃ (j : Nat) (f : Fp), fps[j]? = some (some f) ∧ f.w = true ∧ f.id = i ∧ f.start ≤ k ∧ k < f.start + f.len := by
                  intro i r0 p k hr0 hp hk ⟨j, r, pj, hj, hpj, hc⟩
                  obtain ⟨f, rb, h1, h2, _⟩ := hsr j r hj
                  obtain ⟨pb, hpb⟩ := hlive h2
                  obtain ⟨_, _, rfl, c4, c5⟩ := hcov hj h1 h2 hpb hpj
                  obtain ⟨hw, hcb⟩ := c5 _ _ hc
                  obtain ⟨e1, e2, e3, _⟩ := c4 _ _ hc.2
                  by_cases hid : f.id = i
                  · subst hid
                    rw [hpb] at hp; cases hp
                    exact ⟨j, f, h1, hw, rfl, by omega, by omega⟩
                  · exact absurd ⟨rfl, .inr ⟨by omega, by omega⟩⟩ (hG.sep _ _ _ _ _ _ hid h2 hr0 hpb hp _ _ hcb)
                have hsz := hA.frame.size
                refine ⟨⟨?_, ?_, ?_⟩, ?_, ?_, ?_, ?_⟩
                · rw [← hμ', List.length_append, List.length_append, List.length_drop]; omega
                · -- what stands in each region
                  intro i r p hi hp
                  rcases hreg hi with ⟨hlt, hi1⟩ | ⟨hge, rs, hrs, hkind, hcs⟩
                  · obtain ⟨r0, h0, hk, hl, hcell⟩ := hwr i r hi1
                    have hp0 := hold' hlt hp
                    obtain ⟨g1, g2, g3⟩ := hG.ok i r0 p h0 hp0
                    have hins0 : ∀ b k, inside p r b k → inside p r0 b k := fun b k => (hins (i := i) hk hl).1.1
                    refine ⟨fun b k hin => by have := g1 b k (hins0 b k hin); omega, fun k u hu => ?_, ?_⟩
                    · have hkl : k < r0.cells.length := by rw [← hl]; exact (List.getElem?_eq_some_iff.1 hu).1
                      rcases hcell k u hu with ⟨j, f, rg, e1, e2, e3, e4, e5, e6, e7, e8⟩ | ⟨e1, e2⟩
                      · have hj : sst'[j]? = some (some rg) := by
                          rw [List.getElem?_take] at e6; split at e6
                          · exact e6
                          · cases e6
                        subst e3
                        have hpj := hext j _ (hplace j f p e1 hp0)
                        obtain ⟨_, q2, _⟩ := hA.good.ok j rg _ hj hpj
                        obtain ⟨u', q3, q4⟩ := q2 _ u e7
                        refine ⟨u', ?_, q4.plain0_any e8⟩
                        simp only at q3
                        rw [show p.off + f.start + (k - f.start) = p.off + k from by omega] at q3
                        exact q3
                      · obtain ⟨u', q3, q4⟩ := g2 k u e2
                        refine ⟨u', ?_, q4.mono fun i p hp => hold hp⟩
                        have g1' := g1 p.block (p.off + k) ⟨rfl, .inr ⟨by omega, by omega⟩⟩
                        rw [hA.frame.cell g1' g1' ?_]
                        · exact q3
                        · intro hT
                          obtain ⟨j, f, f1, f2, f3, f4, f5⟩ := hTs h0 hp0 hkl hT
                          exact e1 j f f1 f2 f3 ⟨f4, f5⟩
                    · cases hk2 : r0.kind with
                      | ro => rw [hk, hk2]; trivial
                      | rw =>
                        rw [hk, hk2]
                        intro k hk3
                        have g1' := g1 p.block (p.off + k) ⟨rfl, .inr ⟨by omega, by omega⟩⟩
                        rw [hA.frame.frozen g1' g1']
                        rw [hk2] at g3
                        exact g3 k (by omega)
                      | row e =>
                        rw [hk, hk2]
                        rw [hk2] at g3
                        obtain ⟨m0, m1, m2, hl2, hx⟩ := g3
                        refine ⟨m0, m1, m2, by omega, ?_⟩
                        rcases hx with hx | ⟨cs, t, hh, hs⟩
                        · exact .inl hx
                        have hblt : p.block < w.heap.size := by
                          apply Decidable.byContradiction
                          intro hge
                          rw [Array.getElem?_eq_none (by omega)] at hh; cases hh
                        obtain ⟨cs', n1, n2, _⟩ := hA.frame.cells _ cs t _ hblt hh
                        exact .inr ⟨cs', t, n1, by omega⟩
                  · have hp1 : μs'[fps.length + (i - st.length)]? = some p := by
                      rw [← hnew, show st.length + (i - st.length) = i from by omega]; exact hp
                    obtain ⟨q1, q2, q3⟩ := hA.good.ok _ rs p hrs hp1
                    obtain ⟨l1, l2⟩ := mapO_get hcs
                    refine ⟨fun b k hin => q1 b k (by unfold inside at hin ⊢; rw [← hkind, ← l1]; exact hin), fun k u hu => ?_, ?_⟩
                    · obtain ⟨a, ha, hsa⟩ := l2 k u hu
                      obtain ⟨v', z1, z2⟩ := q2 k a ha
                      exact ⟨v', z1, sub0_fwd hrel hsa z2⟩
                    · rw [hkind]
                      cases hk2 : rs.kind with
                      | ro => trivial
                      | rw => rw [hk2] at q3; exact fun k hk => q3 k (by omega)
                      | row e =>
                        rw [hk2] at q3
                        obtain ⟨m0, m1, m2, hl2, hx⟩ := q3
                        exact ⟨m0, m1, m2, by omega, hx⟩
                · -- apart
                  intro i j r r' p p' hij hi hj hp hp' bb k hcv hin
                  have newB : ∀ {i : Nat} {r : Reg} {p : Place}, st.length ≤ i → (st1 ++ news)[i]? = some (some r) → μ'[i]? = some p → ∃ rs, sst'[fps.length + (i - st.length)]? = some (some rs) ∧ μs'[fps.length + (i - st.length)]? = some p ∧ w.heap.size ≤ p.block ∧ r.kind = rs.kind ∧ r.cells.length = rs.cells.length := by
                    intro i r p hge hi hp
                    rcases hreg hi with ⟨hlt, _⟩ | ⟨_, rs, hrs, hkind, hcs⟩
                    · omega
                    · have hp1 : μs'[fps.length + (i - st.length)]? = some p := by
                        rw [← hnew, show st.length + (i - st.length) = i from by omega]; exact hp
                      exact ⟨rs, hrs, hp1, hA.news _ rs p (by rw [hsl]; omega) hrs hp1, hkind, (mapO_get hcs).1⟩
                  have oldB : ∀ {i : Nat} {r : Reg} {p : Place}, i < st.length → (st1 ++ news)[i]? = some (some r) → μ'[i]? = some p → ∃ r0, st[i]? = some (some r0) ∧ μ[i]? = some p ∧ (∀ b k, inside p r b k → p.block < w.heap.size) ∧ r.kind = r0.kind ∧ r.cells.length = r0.cells.length := by
                    intro i r p hlt hi hp
                    rcases hreg hi with ⟨_, hi1⟩ | ⟨hge, _⟩
                    · obtain ⟨r0, h0, hk, hl, _⟩ := hwr i r hi1
                      have hp0 := hold' hlt hp
                      exact ⟨r0, h0, hp0, fun b k hin => (hG.ok i r0 p h0 hp0).1 b k ((hins (i := i) hk hl).1.1 hin), hk, hl⟩
                    · omega
                  have hcb := hcv.2.1
                  have hib := hin.1
                  by_cases hilt : i < st.length
                  · obtain ⟨r0, a1, a2, a3, a4, a5⟩ := oldB hilt hi hp
                    by_cases hjlt : j < st.length
                    · obtain ⟨r1, b1, b2, b3, b4, b5⟩ := oldB hjlt hj hp'
                      exact hG.sep i j r0 r1 p p' hij a1 b1 a2 b2 bb k ((hins (i := i) a4 a5).2.1 hcv) ((hins (i := i) b4 b5).1.1 hin)
                    · obtain ⟨r1, b1, b2, b3, b4, b5⟩ := newB (by omega) hj hp'
                      have := a3 _ _ hcv.inside
                      omega
                  · obtain ⟨r0, a1, a2, a3, a4, a5⟩ := newB (by omega) hi hp
                    by_cases hjlt : j < st.length
                    · obtain ⟨r1, b1, b2, b3, b4, b5⟩ := oldB hjlt hj hp'
                      have := b3 _ _ hin
                      omega
                    · obtain ⟨r1, b1, b2, b3, b4, b5⟩ := newB (by omega) hj hp'
                      exact hA.good.sep _ _ r0 r1 p p' (by omega) a1 b1 a2 b2 bb k ((hins (i := i) a4 a5).2.1 hcv) ((hins (i := i) b4 b5).1.1 hin)
                · -- whose it is
                  intro bb k ⟨i, r, p, hi, hp, hcv⟩
                  rcases hreg hi with ⟨hlt, hi1⟩ | ⟨hge, rs, hrs, hkind, hcs⟩
                  · obtain ⟨r0, h0, hk, hl, _⟩ := hwr i r hi1
                    exact .inr ⟨i, r0, p, h0, hold' hlt hp, (hins (i := i) hk hl).2.1 hcv⟩
                  · have hp1 : μs'[fps.length + (i - st.length)]? = some p := by
                      rw [← hnew, show st.length + (i - st.length) = i from by omega]; exact hp
                    have := hA.news _ rs p (by rw [hsl]; omega) hrs hp1
                    left; rw [← hcv.2.1]; exact this
                · -- the rest stays
                  exact (Stays.refl _ _ w).trans hA.frame (Nat.le_refl _) fun b k _ h => hTouch b k h
                · intro i r p hge hi hp
                  rcases hreg hi with ⟨hlt, _⟩ | ⟨_, rs, hrs, _⟩
                  · omega
                  · have hp1 : μs'[fps.length + (i - st.length)]? = some p := by
                      rw [← hnew, show st.length + (i - st.length) = i from by omega]; exact hp
                    exact hA.news _ rs p (by rw [hsl]; omega) hrs hp1
                · intro i r hlt hi
                  rcases hreg hi with ⟨_, hi1⟩ | ⟨hge, _⟩
                  · obtain ⟨r0, h0, hk, _⟩ := hwr i r hi1
                    exact ⟨r0, h0, hk⟩
                  · omega
              · -- what is not written stays
                intro r hr hf
                rw [List.getElem?_append_left (by omega)]
                have key : ∀ {fps : List (Option Fp)} {s q s' : St}, wb s fps q = some s' → (∀ (j : Nat) f, fps[j]? = some (some f) → f.w = true → f.id ≠ r) → s'[r]? = s[r]? := by
                  intro fps
                  induction fps with
                  | nil => intro s q s' h _; simp [wb] at h; rw [h]
                  | cons g gs ih =>
                    intro s q s' h hn
                    have hn' : ∀ (j : Nat) f, gs[j]? = some (some f) → f.w = true → f.id ≠ r := fun j f hj => hn (j + 1) f (by simpa using hj)
                    cases q with
                    | nil => cases g <;> simp [wb] at h
                    | cons x q =>
                      cases g with
                      | none => simp only [wb] at h; exact ih h hn'
                      | some g =>
                        simp only [wb] at h
                        split at h
                        · rename_i hw
                          split at h
                          · split at h
                            · split at h
                              · rename_i s1 hwr1
                                rw [ih h hn', wr_keep hwr1 r (fun e => hn 0 g rfl hw e.symm)]
                              · cases h
                            · cases h
                          · cases h
                        · exact ih h hn'
                refine key hwb fun j f hj hw he => hf ?_
                unfold gfoot0
                rw [hpk]
                simp only [List.mem_filterMap]
                exact ⟨some f, List.mem_of_getElem? hj, by simp [hw, he]⟩
            · cases h
          · cases h
        · cases h
      · cases h
    · cases h
  · cases h

/-- A region without cells may be thought of. -/
theorem AC.thin {P : Program} {f : FuncId} {args : List Value} {st : St} {res : Value} {st' : St} (h : AC P f args (st ++ [some ⟨[], .rw⟩]) res st') : AC P f args st res st' := by
  intro μ w rargs hargs hG
  have hlen := hG.len
  have hno : ∀ {p : Place} {b k : Nat}, ¬ inside p ⟨[], .rw⟩ b k := by
    rintro p b k ⟨_, ⟨⟨e, he⟩, _⟩ | ⟨h1, h2⟩⟩
    · cases he
    · simp at h2; omega
  have hold : ∀ {j : Nat} {p q : Place}, (μ ++ [q])[j]? = some p → j < st.length → μ[j]? = some p := by
    intro j p q hp hj
    rw [List.getElem?_append_left (by omega)] at hp; exact hp
  have hG' : Good (μ ++ [⟨w.heap.size, 0, 0, 0⟩]) (st ++ [some ⟨[], .rw⟩]) w := by
    refine ⟨by simp [hlen], ?_, ?_⟩
    · intro j r p hj hp
      rcases getElem?_snoc_reg hj with ⟨rfl, rfl⟩ | ⟨hl', hj'⟩
      · exact ⟨fun b k hin => absurd hin hno, fun k v hv => by simp at hv, fun k hk => by simp at hk⟩
      · obtain ⟨a, b, c⟩ := hG.ok j r p hj' (hold hp hl')
        exact ⟨a, fun k v hv => let ⟨v', h1, h2⟩ := b k v hv; ⟨v', h1, h2.mono (Ext.append _ _)⟩, c⟩
    · intro i j r r' p p' hij hi hj hp hp' b k hcv hin
      rcases getElem?_snoc_reg hi with ⟨rfl, rfl⟩ | ⟨hl1, hi'⟩
      · exact hno hcv.inside
      · rcases getElem?_snoc_reg hj with ⟨rfl, rfl⟩ | ⟨hl2, hj'⟩
        · exact hno hin
        · exact hG.sep i j r r' p p' hij hi' hj' (hold hp hl1) (hold hp' hl2) b k hcv hin
  have hT : ∀ b k, Touch (μ ++ [⟨w.heap.size, 0, 0, 0⟩]) (st ++ [some ⟨[], .rw⟩]) b k → Touch μ st b k := by
    rintro b k ⟨i, r, p, hi, hp, hc⟩
    rcases getElem?_snoc_reg hi with ⟨rfl, rfl⟩ | ⟨hl1, hi'⟩
    · exact absurd hc.inside hno
    · exact ⟨i, r, p, hi', hold hp hl1, hc⟩
  refine (h _ w rargs (hargs.mono (Ext.append _ _)) hG').mono ?_
  rintro e w' ⟨μ', v, rfl, hv, hext, hA⟩
  refine ⟨μ', v, rfl, hv, (Ext.append _ _).trans hext, hA.good, ?_, ?_, ?_, ?_⟩
  · intro b k hb
    rcases hA.own b k hb with h | h
    · exact .inl h
    · exact .inr (hT b k h)
  · exact (Stays.refl _ _ w).trans hA.frame (Nat.le_refl _) fun b k _ h => hT b k h
  · intro i r p hge hi hp
    by_cases e : i = st.length
    · subst e
      have : (μ ++ [(⟨w.heap.size, 0, 0, 0⟩ : Place)])[st.length]? = some ⟨w.heap.size, 0, 0, 0⟩ := by rw [← hlen]; simp
      rw [hext _ _ this] at hp; cases hp
      exact Nat.le_refl _
    · exact hA.news i r p (by simp; omega) hi hp
  · intro i r hlt hi
    obtain ⟨r0, h0, hk⟩ := hA.kinds i r (by simp; omega) hi
    rw [List.getElem?_append_left hlt] at h0
    exact ⟨r0, h0, hk⟩

theorem gcall_sound {P : Program} {f : FuncId} {ks : List AK} {spec : List Value → St → Option (Value × St)}
    (hspec : ∀ a s r s', spec a s = some (r, s') → AC P f a s r s') {args : List Value} {st : St} {res : Value} {st' : St} (h : gcall ks spec args st = some (res, st')) :
    AC P f args st res st' ∧ ∀ r, r < st.length → r ∉ gfoot ks args st → st'[r]? = st[r]? := by
  unfold gcall at h
  unfold gfoot
  split at h
  · rename_i hb
    rw [if_pos hb]
    obtain ⟨h1, h2⟩ := gcall0_sound hspec h
    refine ⟨h1.thin, fun r hr hf => ?_⟩
    rw [h2 r (by simp; omega) hf, List.getElem?_append_left hr]
  · rename_i hb
    rw [if_neg hb]
    exact gcall0_sound hspec h

theorem readIds_spec : ∀ {fps : List (Option Fp)} {rs : List Nat}, readIds fps = some rs → ∀ f, some f ∈ fps → f.w = false ∧ f.id ∈ rs := by
  intro fps
  induction fps with
  | nil => intro rs _ f h; simp at h
  | cons a r ih =>
    intro rs h f hf
    cases a with
    | none => exact ih h f (by simpa using hf)
    | some g =>
      simp only [readIds] at h
      split at h
      · cases h
      · rename_i hw
        split at h
        · rename_i l hl
          simp at h; subst h
          rcases List.mem_cons.1 hf with e | hf
          · cases e; exact ⟨by simpa using hw, by simp⟩
          · obtain ⟨a, b⟩ := ih hl f hf; exact ⟨a, by simp [b]⟩
        · cases h

theorem greads_sound {ks : List AK} {spec : List Value → St → Option (Value × St)} {args : List Value} {st : St} {res : Value} {st' : St} {rs : List Nat} (h : gcall ks spec args st = some (res, st'))
    (hr : greads ks args = some rs) (hl : st'.length = st.length) : st' = st ∧ ∀ s2 : St, (∀ r ∈ rs, s2[r]? = st[r]?) → gcall ks spec args s2 = some (res, s2) := by
  unfold greads at hr
  split at hr
  · cases hr
  rename_i hb
  have hb' : bares ks args = false := by simpa using hb
  split at hr
  · rename_i sargs fps hpk
    have hfs := readIds_spec hr
    unfold gcall at h
    rw [if_neg (by simp [hb'])] at h
    unfold gcall0 at h
    rw [hpk] at h
    simp only at h
    have hwb : ∀ {fps : List (Option Fp)} {s q s' : St}, (∀ f, some f ∈ fps → f.w = false) → wb s fps q = some s' → s' = s ∧ ∀ s2, wb s2 fps q = some s2 := by
      intro fps
      induction fps with
      | nil => intro s q s' _ h; simp [wb] at h; exact ⟨h.symm, fun s2 => by simp [wb]⟩
      | cons a r ih =>
        intro s q s' hf h
        cases q with
        | nil => cases a <;> simp [wb] at h
        | cons x q =>
          cases a with
          | none => simp only [wb] at h ⊢; exact ih (fun f hm => hf f (by simp [hm])) h
          | some f =>
            have hw := hf f (by simp)
            simp only [wb, hw] at h ⊢
            exact ih (fun f hm => hf f (by simp [hm])) h
    have hsm : ∀ {fps : List (Option Fp)} {s s2 : St}, (∀ f, some f ∈ fps → s2[f.id]? = s[f.id]?) → smalls s2 fps = smalls s fps := by
      intro fps
      induction fps with
      | nil => intro s s2 _; rfl
      | cons a r ih =>
        intro s s2 hf
        have e := ih (s := s) (s2 := s2) fun f hm => hf f (by simp [hm])
        cases a with
        | none => simp only [smalls, e]
        | some f => simp only [smalls, e, hf f (by simp)]
    split at h
    · rename_i sst hs
      split at h
      · rename_i hdj
        split at h
        · rename_i sres sst' hsp
          split at h
          · rename_i st1 hw
            split at h
            · rename_i news res' hnews hres
              simp at h; obtain ⟨rfl, rfl⟩ := h
              obtain ⟨rfl, hwb2⟩ := hwb (fun f hm => (hfs f hm).1) hw
              have hn : news = [] := by
                rw [List.length_append] at hl
                exact List.length_eq_zero_iff.1 (by omega)
              subst hn
              have hz : sst'.length - fps.length = 0 := by
                have := (mapO_get hnews).1
                simp at this; omega
              refine ⟨by simp, fun s2 hs2 => ?_⟩
              unfold gcall
              rw [if_neg (by simp [hb'])]
              unfold gcall0
              rw [hpk]
              simp only
              rw [hsm (s := st1) (s2 := s2) fun f hm => hs2 _ (hfs f hm).2, hs]
              simp only [hdj, if_true, hsp, hwb2 s2]
              have e : ∀ m m', sigOf fps m (sst'.length - fps.length) = sigOf fps m' (sst'.length - fps.length) := by
                intro m m'; rw [hz]; rfl
              rw [e s2.length st1.length, hnews, hres]
              simp
            · cases h
          · cases h
        · cases h
      · cases h
    · cases h
  · cases hr

end Go.Proofs.Ytggkdjhgknghcaa.Am

namespace Go.Proofs.Ytggkdjhgknghcaa.Am

def SigBack (σ : Sig) (μs μb : List Place) : Prop :=
  ∀ (i id st : Nat) q, σ[i]? = some (some (id, st)) → μb[id]? = some q → μs[i]? = some ⟨q.block, q.off + st, q.lim, q.esz⟩

theorem sub0_bwd {σ : Sig} {μs μb} (hrel : SigBack σ μs μb) {v v' r} (h : sub0 σ v = some v') (hv : VR μb v' r) : VR μs v r := by
  rcases sub0_inv h with ⟨i, off, id, st, rfl, hσ, rfl⟩ | ⟨i, off, len, c, id, st, rfl, hσ, rfl⟩ | ⟨i, len, c, id, rfl, hσ, rfl⟩ | ⟨rfl, rfl⟩ | ⟨hp, rfl⟩
  · obtain ⟨q, hq, rfl⟩ := hv.ptr_inv
    have := VR.ptr (μ := μs) i off _ (hrel i id st q hσ hq)
    simp only [Nat.add_assoc, Nat.add_comm st off] at this
    exact this
  · generalize ho : off + st = o at hv
    cases hv with
    | slice _ _ _ _ c' q hq hc =>
      have := VR.slice (μ := μs) i off len c c' _ (hrel i id st q hσ hq) hc
      simp only [Nat.add_assoc, Nat.add_comm st off, ho] at this
      exact this
    | slice0 => exact .slice0 _ _ _ _
  · cases hv with
    | row _ _ _ c' q hq hc h0 h1 h2 =>
      exact .row _ _ _ _ ⟨q.block, q.off + 0, q.lim, q.esz⟩ (hrel i id 0 q hσ hq) hc (by simpa using h0) h1 h2
    | row0 => exact .row0 _
  · cases hv with
    | empty a c => exact .empty a c
  · exact hv.plain0_any hp

theorem mapO_bwd {f : Value → Option Value} {μs μb : List Place} (hf : ∀ {v v' r}, f v = some v' → VR μb v' r → VR μs v r) : ∀ {xs xs' ys : List Value}, mapO f xs = some xs' → VRs μb xs' ys → VRs μs xs ys := by
  intro xs
  induction xs with
  | nil => intro xs' ys h hv; simp [mapO] at h; subst h; rw [hv.eq_nil]; exact .nil
  | cons x r ih =>
    intro xs' ys h hv
    simp only [mapO] at h
    split at h
    · rename_i b hb
      split at h
      · rename_i l hl
        simp at h; subst h
        obtain ⟨y, ys', rfl, h1, h2⟩ := hv.uncons
        exact .cons (hf hb h1) (ih hl h2)
      · cases h
    · cases h

theorem sub1_bwd {σ : Sig} {μs μb} (hrel : SigBack σ μs μb) {v v' r} (h : sub1 σ v = some v') (hv : VR μb v' r) : VR μs v r := by
  unfold sub1 at h
  split at h
  · rename_i cs
    split at h
    · rename_i l hl
      simp at h; subst h
      cases hv with
      | agg _ ys hs hall =>
        have := (mapO_bwd (sub0_bwd hrel) hl (ys := ys.toList) (by have := VRs.of_agg (.agg _ _ hs hall); simpa using this)).agg
        simpa using this
    · cases h
  · exact sub0_bwd hrel h hv

theorem sub_bwd {σ : Sig} {μs μb} (hrel : SigBack σ μs μb) {v v' r} (h : sub σ v = some v') (hv : VR μb v' r) : VR μs v r := by
  unfold sub at h
  split at h
  · rename_i cs
    split at h
    · rename_i l hl
      simp at h; subst h
      cases hv with
      | tuple _ ys hs hall =>
        have := (mapO_bwd (sub1_bwd hrel) hl (ys := ys.toList) (show VRs μb l ys.toList from ⟨by simpa using hs, fun i x y hx hy => hall i x y (by simpa using hx) (by simpa using hy)⟩)).tuple
        simpa using this
    · cases h
  · exact sub1_bwd hrel h hv

def sigIds (ids : List Nat) : Sig := ids.map fun i => some (i, 0)

/-- The caller is told of the regions that matter, under new numbers. -/
theorem AC.view {P : Program} {f : FuncId} {args : List Value} {st : St} {res : Value} {stF : St} (h : AC P f args st res stF) (ids : List Nat) {res2 : Value} {st2 : St}
    (hids : ids.take st.length = List.range st.length) (hnd : ids.Nodup)
    (hreg : mapO (subReg (sigIds ids)) st2 = some (ids.map fun id => (stF[id]?).getD none)) (hres : sub (sigIds ids) res2 = some res) : AC P f args st res2 st2 := by
  intro μ w rargs hargs hG
  refine (h μ w rargs hargs hG).mono ?_
  rintro e w' ⟨μF, v, rfl, hv, hext, hA⟩
  have hFl := hA.good.len
  obtain ⟨hl2, hg2⟩ := mapO_get hreg
  have hl : st2.length = ids.length := by rw [← hl2]; simp
  have hle : st.length ≤ ids.length := by
    have := congrArg List.length hids
    rw [List.length_take, List.length_range] at this; omega
  generalize hμ2 : ids.map (fun id => (μF[id]?).getD dflt) = μ2
  have hμ2g : ∀ (i id : Nat), ids[i]? = some id → μ2[i]? = some ((μF[id]?).getD dflt) := by
    intro i id hi; rw [← hμ2, List.getElem?_map, hi]; rfl
  have hback : SigBack (sigIds ids) μ2 μF := by
    intro i id stt q hσ hq
    unfold sigIds at hσ
    rw [List.getElem?_map] at hσ
    cases hi : ids[i]? with
    | none => rw [hi] at hσ; simp at hσ
    | some j =>
      rw [hi] at hσ; simp at hσ; obtain ⟨rfl, rfl⟩ := hσ
      rw [hμ2g i j hi, hq]; simp
  have hlow : ∀ {i : Nat}, i < st.length → ids[i]? = some i := by
    intro i hi
    have : (ids.take st.length)[i]? = (List.range st.length)[i]? := by rw [hids]
    rw [List.getElem?_take, if_pos hi, List.getElem?_range hi] at this
    exact this
  have hreg2 : ∀ {i : Nat} {r : Reg}, st2[i]? = some (some r) → ∃ id rF, ids[i]? = some id ∧ stF[id]? = some (some rF) ∧ rF.kind = r.kind ∧ mapO (sub0 (sigIds ids)) r.cells = some rF.cells := by
    intro i r hi
    have hlt : i < ids.length := by rw [← hl]; exact (List.getElem?_eq_some_iff.1 hi).1
    have h1 : (ids.map fun id => (stF[id]?).getD none)[i]? = some ((stF[ids[i]]?).getD none) := by rw [List.getElem?_map, List.getElem?_eq_getElem hlt]; rfl
    obtain ⟨a, ha, hs⟩ := hg2 i _ h1
    rw [hi] at ha; cases ha
    simp only [subReg] at hs
    split at hs
    · rename_i cs hcs
      simp at hs
      refine ⟨ids[i], ⟨cs, r.kind⟩, List.getElem?_eq_getElem hlt, ?_, rfl, hcs⟩
      cases hq : stF[ids[i]]? with
      | none => rw [hq] at hs; simp at hs
      | some q => rw [hq] at hs; simp at hs; rw [← hs]
    · cases hs
  have hpl : ∀ {i id : Nat} {rF : Reg} {p : Place}, ids[i]? = some id → stF[id]? = some (some rF) → μ2[i]? = some p → μF[id]? = some p := by
    intro i id rF p hi hr hp
    have hlt : id < μF.length := by rw [hFl]; exact (List.getElem?_eq_some_iff.1 hr).1
    rw [hμ2g i id hi, List.getElem?_eq_getElem hlt] at hp
    simp at hp; rw [← hp]; exact List.getElem?_eq_getElem hlt
  have hkl : ∀ {r rF : Reg}, rF.kind = r.kind → mapO (sub0 (sigIds ids)) r.cells = some rF.cells → rF.cells.length = r.cells.length := fun _ h => (mapO_get h).1
  refine ⟨μ2, v, rfl, sub_bwd hback hres hv, ?_, ⟨by rw [← hμ2]; simp [hl], ?_, ?_⟩, ?_, hA.frame, ?_, ?_⟩
  · intro i p hp
    have hi : i < st.length := by rw [← hG.len]; exact (List.getElem?_eq_some_iff.1 hp).1
    rw [hμ2g i i (hlow hi), hext i p hp]; rfl
  · intro i r p hi hp
    obtain ⟨id, rF, h1, h2, h3, h4⟩ := hreg2 hi
    obtain ⟨g1, g2, g3⟩ := hA.good.ok id rF p h2 (hpl h1 h2 hp)
    have hk := hkl h3 h4
    refine ⟨fun b k hin => g1 b k (by unfold inside at hin ⊢; rw [h3, hk]; exact hin), fun k u hu => ?_, ?_⟩
    · have hk2 : k < rF.cells.length := by rw [hk]; exact (List.getElem?_eq_some_iff.1 hu).1
      obtain ⟨v', z1, z2⟩ := g2 k _ (List.getElem?_eq_getElem hk2)
      obtain ⟨a, ha, hsa⟩ := (mapO_get h4).2 k _ (List.getElem?_eq_getElem hk2)
      rw [hu] at ha; cases ha
      exact ⟨v', z1, sub0_bwd hback hsa z2⟩
    · rw [← h3]
      cases hkind : rF.kind with
      | ro => trivial
      | rw => rw [hkind] at g3; exact fun k hk2 => g3 k (by omega)
      | row e => rw [hkind] at g3; obtain ⟨m0, m1, m2, hl3, hx⟩ := g3; exact ⟨m0, m1, m2, by omega, hx⟩
  · intro i j r r' p p' hij hi hj hp hp' b k hcv hin
    obtain ⟨id, rF, h1, h2, h3, h4⟩ := hreg2 hi
    obtain ⟨id', rF', k1, k2, k3, k4⟩ := hreg2 hj
    have hne : id ≠ id' := by
      intro e; subst e
      have a1 := (List.getElem?_eq_some_iff.1 h1)
      have a2 := (List.getElem?_eq_some_iff.1 k1)
      obtain ⟨l1, e1⟩ := a1
      obtain ⟨l2, e2⟩ := a2
      exact hij ((List.getElem_inj hnd).1 (e1.trans e2.symm))
    refine hA.good.sep id id' rF rF' p p' hne h2 k2 (hpl h1 h2 hp) (hpl k1 k2 hp') b k ?_ ?_
    · unfold covers at hcv ⊢; rw [h3, hkl h3 h4]; exact hcv
    · unfold inside at hin ⊢; rw [k3, hkl k3 k4]; exact hin
  · intro b k ⟨i, r, p, hi, hp, hc⟩
    obtain ⟨id, rF, h1, h2, h3, h4⟩ := hreg2 hi
    refine hA.own b k ⟨id, rF, p, h2, hpl h1 h2 hp, ?_⟩
    unfold covers at hc ⊢; rw [h3, hkl h3 h4]; exact hc
  · intro i r p hge hi hp
    obtain ⟨id, rF, h1, h2, h3, h4⟩ := hreg2 hi
    refine hA.news id rF p ?_ h2 (hpl h1 h2 hp)
    apply Decidable.byContradiction
    intro hlt
    have := hlow (i := id) (by omega)
    have a1 := (List.getElem?_eq_some_iff.1 h1)
    have a2 := (List.getElem?_eq_some_iff.1 this)
    obtain ⟨l1, e1⟩ := a1
    obtain ⟨l2, e2⟩ := a2
    have := (List.getElem_inj hnd).1 (e1.trans e2.symm)
    omega
  · intro i r hlt hi
    obtain ⟨id, rF, h1, h2, h3, h4⟩ := hreg2 hi
    rw [hlow hlt] at h1; cases h1
    obtain ⟨r0, q1, q2⟩ := hA.kinds i rF hlt h2
    exact ⟨r0, q1, h3.symm.trans q2⟩

theorem mapO_plain0 {σ : Sig} : ∀ {l : List Value}, l.all plain0 = true → mapO (sub0 σ) l = some l := by
  intro l
  induction l with
  | nil => intro _; rfl
  | cons v r ih =>
    intro h
    simp only [List.all_cons, Bool.and_eq_true] at h
    have : sub0 σ v = some v := by
      have hp := h.1
      unfold sub0
      split
      · simp [plain0] at hp
      · simp [plain0] at hp
      · rw [if_pos hp]
    simp only [mapO, this, ih h.2]

theorem sub_plain {σ : Sig} {v : Value} (h : plain v = true) : sub σ v = some v := by
  have h0 : ∀ {v}, plain0 v = true → sub0 σ v = some v := by
    intro v hp
    have := mapO_plain0 (σ := σ) (l := [v]) (by simp [hp])
    simp only [mapO] at this
    split at this
    · rename_i b hb; simp at this; rw [hb, this]
    · cases this
  cases v with
  | tuple cs =>
    have : mapO (sub1 σ) cs.toList = some cs.toList := by
      have hall : cs.toList.all plain0 = true := h
      generalize cs.toList = l at hall
      induction l with
      | nil => rfl
      | cons v r ih =>
        simp only [List.all_cons, Bool.and_eq_true] at hall
        have h1 : sub1 σ v = some v := by
          have hv := hall.1
          cases v <;> first | exact h0 hv | (simp [Am.plain0] at hv)
        simp only [mapO, h1, ih hall.2]
    simp only [sub, this]
  | agg cs =>
    have := mapO_plain0 (σ := σ) (l := cs.toList) h
    simp only [sub, sub1, this]
  | _ => simp only [sub, sub1]; exact h0 (by exact h)

def plainReg : Option Reg → Bool
  | some r => r.cells.all plain0
  | none => true

/-- A result without addresses; what the call made is forgotten. -/
theorem AC.forget {P : Program} {f : FuncId} {args : List Value} {st : St} {res : Value} {stF st2 : St} (h : AC P f args st res stF) (hl : st2.length = st.length) (hle : st2 = stF.take st2.length)
    (hp : st2.all plainReg = true) (hr : plain res = true) : AC P f args st res st2 := by
  refine h.view (List.range st.length) (by simp) List.nodup_range ?_ (sub_plain hr)
  have e : (List.range st.length).map (fun id => (stF[id]?).getD none) = st2 := by
    apply List.ext_getElem?
    intro i
    by_cases hi : i < st.length
    · rw [List.getElem?_map, List.getElem?_range hi]
      simp only [Option.map_some]
      have h2 : i < st2.length := by omega
      have h3 : st2[i]? = stF[i]? := by
        have := congrArg (fun l : St => l[i]?) hle
        simp only [List.getElem?_take, if_pos h2] at this; exact this
      rw [← h3, List.getElem?_eq_getElem h2]; rfl
    · rw [List.getElem?_eq_none (by simp; omega), List.getElem?_eq_none (by omega)]
  rw [e]
  clear e hle h hl
  induction st2 with
  | nil => rfl
  | cons x r ih =>
    simp only [List.all_cons, Bool.and_eq_true] at hp
    have h1 : subReg (sigIds (List.range st.length)) x = some x := by
      cases x with
      | none => rfl
      | some rg =>
        have hp1 : rg.cells.all plain0 = true := hp.1
        simp only [subReg, mapO_plain0 hp1]
    simp only [mapO, h1, ih hp.2]

/-! ### The table of what is known -/
structure Entry where
  f : FuncId
  ks : List AK
  spec : List Value → St → Option (Value × St)

def findE : List Entry → FuncId → Option Entry
  | [], _ => none
  | e :: r, f => if f = e.f then some e else findE r f

theorem findE_mem : ∀ {es : List Entry} {f : FuncId} {e : Entry}, findE es f = some e → e ∈ es ∧ f = e.f := by
  intro es
  induction es with
  | nil => intro f e h; simp [findE] at h
  | cons a r ih =>
    intro f e h
    simp only [findE] at h
    split at h
    · rename_i hf; simp at h; subst h; exact ⟨by simp, hf⟩
    · obtain ⟨h1, h2⟩ := ih h; exact ⟨by simp [h1], h2⟩

def orc (es : List Entry) : Orc where
  run f args st := match findE es f with
    | some e => match e.ks with
      | [.whole] => e.spec args st
      | ks => gcall ks e.spec args st
    | none => none
  foot f args st := match findE es f with
    | some e => match e.ks with
      | [.whole] => List.range st.length
      | ks => gfoot ks args st
    | none => []
  reads f args := match findE es f with
    | some e => match e.ks with
      | [.whole] => none
      | ks => greads ks args
    | none => none

structure EntryOk (P : Program) (e : Entry) : Prop where
  spec : ∀ a s r s', e.spec a s = some (r, s') → AC P e.f a s r s'
  body : ∃ fn, P.funcs[e.f]? = some fn ∧ (fn.name == "runtime.NumGoroutine") = false ∧ fn.body.isNone = false

theorem orc_ok {P : Program} {es : List Entry} (h : ∀ e ∈ es, EntryOk P e) : OrcOk P (orc es) := by
  refine ⟨?_, ?_, ?_, ?_⟩
  · intro f args st res st' hr
    simp only [orc] at hr
    split at hr
    · rename_i e he
      obtain ⟨h1, h2⟩ := findE_mem he
      subst h2
      split at hr
      · exact (h e h1).spec _ _ _ _ hr
      · exact (gcall_sound (h e h1).spec hr).1
    · cases hr
  · intro f args st res st' hr
    simp only [orc] at hr
    split at hr
    · rename_i e he
      obtain ⟨h1, h2⟩ := findE_mem he
      subst h2
      exact (h e h1).body
    · cases hr
  · intro f args st res st' hr r hrl hf
    simp only [orc] at hr hf
    split at hr
    · rename_i e he
      obtain ⟨h1, h2⟩ := findE_mem he
      subst h2
      rw [he] at hf
      simp only at hf
      split at hr
      · rename_i hk
        simp only [hk] at hf
        exact absurd (List.mem_range.2 hrl) hf
      · rename_i hk
        split at hf
        · rename_i hk2; exact absurd hk2 hk
        · exact (gcall_sound (h e h1).spec hr).2 r hrl hf
    · cases hr
  · intro f args st res st' rs hr hrs hl
    simp only [orc] at hr hrs ⊢
    split at hr
    · rename_i e he
      rw [he] at hrs
      simp only at hrs
      split at hr
      · rename_i hk
        simp only [hk] at hrs
        cases hrs
      · rename_i hk
        split at hrs
        · rename_i hk2; exact absurd hk2 hk
        · obtain ⟨a, b⟩ := greads_sound hr hrs hl
          exact ⟨a, b⟩
    · cases hr

/-- A function's own body in the place of a contract. -/
def inl (T : Tab) (O : Orc) (h : Hint) (n : Nat) (c : Code) (ntmps : Nat) (rs : List ResultVar) (args : List Value) (st : St) : Option (Value × St) :=
  if noRow st then match abody T O h n c ntmps rs args st with
    | some (r, s) => if kindsOk st s then some (r, s) else none
    | none => none else none

theorem inl_okP {P : Program} {T : Tab} (hT : TabOk P T) {O : Orc} (hO : OrcOk P O) (hmix : P.follows .mixedOrders = true) {f : FuncId} {fn : Func} {c : Code} {hint : Hint} {n : Nat} (hf : P.funcs[f]? = some fn) (hb : fn.body = some c)
    {a s r s'} (hP : exP P T O hint n c (a ++ List.replicate (fn.ntmps - a.length) undef) s True) (h : inl T O hint n c fn.ntmps fn.results.toList a s = some (r, s')) : AC P f a s r s' := by
  unfold inl at h
  split at h
  · rename_i hn
    split at h
    · rename_i r1 s1 hab
      split at h
      · rename_i hk
        simp at h; obtain ⟨rfl, rfl⟩ := h
        exact AC.of_body hT hO hmix hf hb hn hP hab hk
      · cases h
    · cases h
  · cases h

theorem inl_ok {P : Program} {T : Tab} (hT : TabOk P T) {O : Orc} (hO : OrcOk P O) (hmix : P.follows .mixedOrders = true) {f : FuncId} {fn : Func} {c : Code} {n : Nat} (hf : P.funcs[f]? = some fn) (hb : fn.body = some c)
    {a s r s'} (h : inl T O noHint n c fn.ntmps fn.results.toList a s = some (r, s')) : AC P f a s r s' := by
  refine inl_okP hT hO hmix hf hb ?_ h
  unfold inl at h
  split at h
  · split at h
    · rename_i hab
      unfold abody at hab
      split at hab
      · rename_i hex; exact exP_none hex trivial
      · rename_i hex; exact exP_none hex trivial
      · cases hab
    · cases h
  · cases h

/-! ### A law -/
def allRo (st : St) : Bool := st.all fun x => match x with
  | some r => r.kind == .ro
  | none => true

open Go.RowKit in
theorem law_of_AC {P : Program} {f : FuncId} {args : List Value} {st st' : St} {rargs : Array Value} {μ : List Place} {w : World} (h : AC P f args st (.bool true) st') (hro : allRo st = true)
    (hv : VRs μ args rargs.toList) (hG : Good μ st w) : Calls P f rargs w fun e w' => e = .returned (.bool true) ∧ Below w.heap.size w w' := by
  refine (h μ w rargs hv hG).mono ?_
  rintro e w' ⟨μ', v, rfl, hv, hext, hA⟩
  cases hv
  refine ⟨rfl, hA.frame.os, hA.frame.tape, hA.frame.output, hA.frame.size, ?_⟩
  have hT : ∀ b k, ¬ Touch μ st b k := by
    rintro b k ⟨i, r, p, hi, _, hc, _⟩
    have := List.all_eq_true.1 hro _ (List.mem_of_getElem? hi)
    simp at this
    exact hc this
  intro k hk
  have hok : w.heap[k]? = some w.heap[k] := Array.getElem?_eq_getElem hk
  rw [hok]
  cases hq : w.heap[k] with
  | cells cs t fr =>
    rw [hq] at hok
    obtain ⟨cs', h1, h2, h3⟩ := hA.frame.cells k cs t fr hk hok
    rw [h1]
    congr 2
    apply Array.ext_getElem?
    intro i
    exact h3 i (hT k i)
  | _ =>
    rw [hq] at hok
    exact hA.frame.other k _ hk hok (by intro _ _ _ hh; cases hh)

end Go.Proofs.Ytggkdjhgknghcaa.Am

namespace Go.Proofs.Ytggkdjhgknghcaa.Am
section
variable {H : Type} {enc : TypeId × Value → H} {P : Program} {w : World} {base : Nat} {spare : Nat → Bool} {held : Bool}

/-- A type whose cells are whole numbers, of the kinds that kd tells. -/
def IntsAt (P : Program) (t : TypeId) (kd : Nat → IntKind) (n : Nat) : Prop :=
  ∀ {H : Type} (enc : TypeId × Value → H) (w : World) (base : Nat) (spare : Nat → Bool) (held : Bool) (fuel : Nat) (cs : List Value) (x : DataW H × List MemPlace), DataW.trod enc P w base spare held fuel t cs = some x →
    cs.length = n ∧ ∀ i, i < n → ∃ z, cs[i]? = some (.int (kd i) z) ∧ (Lit.int (kd i) z).wf = true

theorem IntsAt.int {t : TypeId} {k : IntKind} (ht : P.underlying t = some (.int k)) : IntsAt P t (fun _ => k) 1 := by
  intro H enc w base spare held fuel cs x h
  obtain ⟨z, h1, _, h2⟩ := DataW.trod_int ht h
  subst h1
  refine ⟨rfl, fun i hi => ?_⟩
  have : i = 0 := by omega
  subst this
  exact ⟨z, rfl, h2⟩

theorem IntsAt.array {t e : TypeId} {n m : Nat} {kd : Nat → IntKind} (ht : P.underlying t = some (.array n e)) (hc : P.cellsOf e = m) (hm : 0 < m) (ht2 : P.cellsOf t = n * m) (he : IntsAt P e kd m) :
    IntsAt P t (fun i => kd (i % m)) (n * m) := by
  intro H enc w base spare held fuel cs x h
  obtain ⟨xs, f, rfl, rfl, hl, hxl, hx⟩ := DataW.trod_array ht h
  refine ⟨by omega, fun i hi => ?_⟩
  have hq : i / m < n := by rw [Nat.div_lt_iff_lt_mul hm]; exact hi
  have h1 := hx (i / m) hq
  rw [List.getElem?_eq_getElem (by omega), hc] at h1
  obtain ⟨_, h3⟩ := he enc w base spare held _ _ _ h1
  obtain ⟨z, hz, hwf⟩ := h3 (i % m) (Nat.mod_lt _ hm)
  rw [List.getElem?_take, if_pos (Nat.mod_lt _ hm), List.getElem?_drop, Nat.div_add_mod' i m] at hz
  exact ⟨z, hz, hwf⟩

theorem IntsAt.struct {t : TypeId} {fs : Array Field} {n : Nat} {kd : Nat → IntKind} (ht : P.underlying t = some (.struct fs)) (hn : P.cellsOf t = n)
    (hf : ∀ i, i < n → ∃ (j : Nat) (f : Field) (kf : Nat → IntKind), fs[j]? = some f ∧ IntsAt P f.type kf (P.cellsOf f.type) ∧ f.offset ≤ i ∧ i < f.offset + P.cellsOf f.type ∧ kf (i - f.offset) = kd i) : IntsAt P t kd n := by
  intro H enc w base spare held fuel cs x h
  obtain ⟨xs, m, rfl, rfl, hl, hxl, hx⟩ := DataW.trod_struct ht h
  refine ⟨by omega, fun i hi => ?_⟩
  obtain ⟨j, f, kf, hj, hI, h1, h2, h3⟩ := hf i hi
  have h4 := hx j f hj
  have hjl : j < fs.size := (Array.getElem?_eq_some_iff.1 hj).1
  rw [List.getElem?_eq_getElem (by omega)] at h4
  obtain ⟨_, h5⟩ := hI enc w base spare held _ _ _ h4
  obtain ⟨z, hz, hwf⟩ := h5 (i - f.offset) (by omega)
  rw [List.getElem?_take, if_pos (by omega), List.getElem?_drop, show f.offset + (i - f.offset) = i from by omega] at hz
  rw [h3] at hz hwf
  exact ⟨z, hz, hwf⟩

def numOf : Value → Int
  | .int _ z => z
  | _ => 0
/-- An argument by value, of whole numbers alone. -/
theorem open_ints_agg {t : TypeId} {kd : Nat → IntKind} {n : Nat} {v : Value} {cs : Array Value} {d : DataW H} {ps : List MemPlace} (hI : IntsAt P t kd n) (hv : v = .agg cs) (h : DataW.Trod enc P w base spare held t v d ps) :
    ∃ Z : Nat → Int, v = .agg ⟨(List.range n).map fun i => .int (kd i) (Z i)⟩ ∧ ∀ i, i < n → (Lit.int (kd i) (Z i)).wf = true := by
  subst hv
  obtain ⟨fuel, hf⟩ := h
  obtain ⟨h1, h2⟩ := hI enc w base spare held _ _ _ hf
  simp only [Value.cells] at h1 h2
  refine ⟨fun i => match cs.toList[i]? with | some v => numOf v | none => 0, ?_, ?_⟩
  · congr 1
    apply Array.ext'
    apply List.ext_getElem?
    intro i
    by_cases hi : i < n
    · obtain ⟨z, hz, _⟩ := h2 i hi
      rw [List.getElem?_map, List.getElem?_range hi, hz]
      simp only [Option.map_some, hz, numOf]
    · rw [List.getElem?_eq_none (by omega), List.getElem?_eq_none (by simp; omega)]
  · intro i hi
    obtain ⟨z, hz, hwf⟩ := h2 i hi
    simp only [hz, numOf]; exact hwf

open Go.RowKit in
/-- The arguments read behind the call as they read before. -/
theorem trodAll_back (hl : laidOutB P = true) {W W' : World} (bel : Below W.heap.size W W') : ∀ {ts : List TypeId} {vs : List Value} {ds : List (DataW H)} {ps : List MemPlace},
    (ts.all fun t => P.readableRec t && decide (t < P.types.size)) = true → DataW.TrodAll enc P W 0 (fun _ => true) true ts vs ds ps → DataW.TrodAll enc P W' 0 (fun b => decide (b < W.heap.size)) true ts vs ds ps := by
  intro ts
  induction ts with
  | nil => intro vs ds ps _ h; obtain ⟨rfl, rfl, rfl⟩ := ChangeShapes.trodAll_nil h; exact ChangeShapes.trodAll_mk0
  | cons t ts ih =>
    intro vs ds ps hr h
    simp only [List.all_cons, Bool.and_eq_true, decide_eq_true_eq] at hr
    obtain ⟨v, vs', d, ds', p, q, rfl, rfl, rfl, h1, h2⟩ := ChangeShapes.trodAll_cons h
    have lt : ∀ x ∈ p, x.block < W.heap.size := by obtain ⟨m, hm⟩ := h1; exact DataW.trod_lt m _ _ _ hm
    exact trodAll_cons_mk (Below.trod hl hr.1.1 hr.1.2 h1 bel lt) (ih (by simpa using hr.2) h2)
end
/-- Where no region is told of. -/
theorem good_none {μ : List Place} {st : St} {w : World} (h : (st.all fun x => x.isNone) = true) (hl : μ.length = st.length) : Good μ st w := by
  have key : ∀ {i : Nat} {r : Reg}, st[i]? = some (some r) → False := by
    intro i r hi
    have := List.all_eq_true.1 h _ (List.mem_of_getElem? hi)
    simp at this
  exact ⟨hl, fun i r p hi => (key hi).elim, fun i j r r' p p' _ hi => (key hi).elim⟩
end Go.Proofs.Ytggkdjhgknghcaa.Am

namespace Go.Proofs.Ytggkdjhgknghcaa.Am

def posOf : List Nat → Nat → Nat → Option Nat
  | [], _, _ => none
  | a :: r, x, j => if a = x then some j else posOf r x (j + 1)
theorem posOf_spec : ∀ {l : List Nat} {x j k : Nat}, posOf l x j = some k → j ≤ k ∧ l[k - j]? = some x := by
  intro l
  induction l with
  | nil => intro x j k h; simp [posOf] at h
  | cons a r ih =>
    intro x j k h
    simp only [posOf] at h
    split at h
    · rename_i e; simp at h; subst h; subst e; exact ⟨Nat.le_refl _, by simp⟩
    · obtain ⟨h1, h2⟩ := ih h
      refine ⟨by omega, ?_⟩
      rw [show k - j = (k - (j + 1)) + 1 from by omega]
      simpa using h2
/-- From old numbers to new ones. -/
def sigInv (ids : List Nat) (m : Nat) : Sig := (List.range m).map fun i => (posOf ids i 0).map fun j => (j, 0)

def viewSlots (σ : Sig) (live : List Nat) : Nat → List Value → Option (List Value)
  | _, [] => some []
  | i, v :: r => match viewSlots σ live (i + 1) r with
    | some l => if live.contains i then (if isUnk v then some (v :: l) else match sub σ v with
      | some u => some (u :: l)
      | none => none) else some (unk :: l)
    | none => none
def viewSt (σ : Sig) (adr : List Nat) (s : St) : Nat → List Nat → Option St
  | _, [] => some []
  | j, id :: ids => match viewSt σ adr s (j + 1) ids with
    | some l => if adr.contains j then (match subReg σ ((s[id]?).getD none) with
      | some x => some (x :: l)
      | none => none) else some ((s[id]?).getD none :: l)
    | none => none
/-- All regions but those of 'adr' hold no addresses. -/
def plainBut (adr : List Nat) : Nat → St → Bool
  | _, [] => true
  | j, x :: l => (adr.contains j || plainReg x) && plainBut adr (j + 1) l
def fixOk : Nat → St → List Nat → Bool
  | _, [], _ => true
  | _, _ :: _, [] => false
  | i, x :: s, id :: ids => (id == i || (match x with
    | some ⟨_, .row _⟩ => true
    | _ => false)) && fixOk (i + 1) s ids
def nodupB : List Nat → Bool
  | [] => true
  | a :: r => !r.contains a && nodupB r
theorem nodupB_spec : ∀ {l : List Nat}, nodupB l = true → l.Nodup := by
  intro l
  induction l with
  | nil => intro _; exact List.nodup_nil
  | cons a r ih =>
    intro h
    simp only [nodupB, Bool.and_eq_true, Bool.not_eq_true', List.contains_eq_mem, decide_eq_false_iff_not] at h
    exact List.nodup_cons.2 ⟨h.1, ih h.2⟩
theorem fixOk_spec : ∀ {s : St} {ids : List Nat} {i : Nat}, fixOk i s ids = true → s.length ≤ ids.length ∧ ∀ (j : Nat), j < s.length → ids[j]? = some (i + j) ∨ ∃ r e, s[j]? = some (some r) ∧ r.kind = .row e := by
  intro s
  induction s with
  | nil => intro ids i _; exact ⟨Nat.zero_le _, fun j h => by simp at h⟩
  | cons x s ih =>
    intro ids i h
    cases ids with
    | nil => simp [fixOk] at h
    | cons id ids =>
      simp only [fixOk, Bool.and_eq_true, Bool.or_eq_true, beq_iff_eq] at h
      obtain ⟨h1, h2⟩ := h
      obtain ⟨k1, k2⟩ := ih h2
      refine ⟨by simp; omega, fun j hj => ?_⟩
      cases j with
      | zero =>
        rcases h1 with h1 | h1
        · left; simp [h1]
        · right
          split at h1
          · rename_i cs e; exact ⟨⟨cs, .row e⟩, e, rfl, rfl⟩
          · cases h1
      | succ j =>
        rcases k2 j (by simpa using hj) with h | h
        · left; simp [h]; omega
        · right; simpa using h

theorem viewSlots_spec {σ : Sig} {live : List Nat} : ∀ {t t2 : List Value} {i : Nat}, viewSlots σ live i t = some t2 → t2.length = t.length ∧
    ∀ (j : Nat) (u : Value), t2[j]? = some u → ∃ v, t[j]? = some v ∧ (isUnk u = true ∨ sub σ v = some u) := by
  intro t
  induction t with
  | nil => intro t2 i h; simp [viewSlots] at h; subst h; exact ⟨rfl, fun j u h => by simp at h⟩
  | cons v r ih =>
    intro t2 i h
    simp only [viewSlots] at h
    split at h
    · rename_i l hl
      obtain ⟨h1, h2⟩ := ih hl
      have fin : ∀ {u0 : Value}, (isUnk u0 = true ∨ sub σ v = some u0) → t2 = u0 :: l → t2.length = (v :: r).length ∧ ∀ (j : Nat) (u : Value), t2[j]? = some u → ∃ w, (v :: r)[j]? = some w ∧ (isUnk u = true ∨ sub σ w = some u) := by
        intro u0 hu e
        subst e
        refine ⟨by simp [h1], fun j u hj => ?_⟩
        cases j with
        | zero => simp at hj; subst hj; exact ⟨v, rfl, hu⟩
        | succ j => simpa using h2 j u (by simpa using hj)
      split at h
      · split at h
        · rename_i hu; simp at h; exact fin (.inl hu) h.symm
        · split at h
          · rename_i u hu; simp at h; exact fin (.inr hu) h.symm
          · cases h
      · simp at h; exact fin (u0 := unk) (.inl rfl) h.symm
    · cases h

theorem viewSt_spec {σ : Sig} {adr : List Nat} {s : St} : ∀ {ids : List Nat} {s2 : St} {j : Nat}, viewSt σ adr s j ids = some s2 → s2.length = ids.length ∧
    ∀ (i : Nat) (x : Option Reg), s2[i]? = some x → ∃ id, ids[i]? = some id ∧ ((adr.contains (j + i) = true ∧ subReg σ ((s[id]?).getD none) = some x) ∨ (adr.contains (j + i) = false ∧ x = (s[id]?).getD none)) := by
  intro ids
  induction ids with
  | nil => intro s2 j h; simp [viewSt] at h; subst h; exact ⟨rfl, fun i x h => by simp at h⟩
  | cons id ids ih =>
    intro s2 j h
    simp only [viewSt] at h
    split at h
    · rename_i l hl
      obtain ⟨h1, h2⟩ := ih hl
      have fin : ∀ {x0 : Option Reg}, ((adr.contains j = true ∧ subReg σ ((s[id]?).getD none) = some x0) ∨ (adr.contains j = false ∧ x0 = (s[id]?).getD none)) → s2 = x0 :: l →
          s2.length = (id :: ids).length ∧ ∀ (i : Nat) (x : Option Reg), s2[i]? = some x → ∃ id', (id :: ids)[i]? = some id' ∧ ((adr.contains (j + i) = true ∧ subReg σ ((s[id']?).getD none) = some x) ∨ (adr.contains (j + i) = false ∧ x = (s[id']?).getD none)) := by
        intro x0 hx e
        subst e
        refine ⟨by simp [h1], fun i x hi => ?_⟩
        cases i with
        | zero => simp at hi; subst hi; exact ⟨id, rfl, hx⟩
        | succ i =>
          obtain ⟨id', a, b⟩ := h2 i x (by simpa using hi)
          rw [show j + 1 + i = j + (i + 1) from by omega] at b
          exact ⟨id', by simpa using a, b⟩
      split at h
      · rename_i hc
        split at h
        · rename_i x hx; simp at h; exact fin (.inl ⟨hc, hx⟩) h.symm
        · cases h
      · rename_i hc
        simp at h; exact fin (.inr ⟨by simpa using hc, rfl⟩) h.symm
    · cases h
theorem plainBut_spec {adr : List Nat} : ∀ {s : St} {j : Nat}, plainBut adr j s = true → ∀ (i : Nat) x, s[i]? = some x → adr.contains (j + i) = true ∨ plainReg x = true := by
  intro s
  induction s with
  | nil => intro j _ i x h; simp at h
  | cons y l ih =>
    intro j h i x hi
    simp only [plainBut, Bool.and_eq_true, Bool.or_eq_true] at h
    cases i with
    | zero => simp at hi; subst hi; exact h.1
    | succ i =>
      have := ih h.2 i x (by simpa using hi)
      rw [show j + 1 + i = j + (i + 1) from by omega] at this
      exact this

/-- A state under new numbers ('ids': the old numbers; the first ones stay, but rows, which move); what it held beside is forgotten. -/
theorem R.view {n b T w0 μ st w} (h : R n b T w0 μ st w) {s0 : St} {ids adr live : List Nat} {t t2 : List Value} {s2 : St} {a : Act} (ha : AR μ t a)
    (h0 : fixOk 0 s0 ids = true) (hnd : nodupB ids = true) (hb : b ≤ s0.length) (hrow : ∀ (i : Nat) (r : Reg) (e : Nat), i < b → s0[i]? = some (some r) → r.kind ≠ .row e)
    (ht : viewSlots (sigInv ids st.length) live 0 t = some t2) (hs : viewSt (sigInv ids st.length) adr st 0 ids = some s2) (hpl : plainBut adr 0 s2 = true) :
    ∃ μ2, ExtU b μ μ2 ∧ AR μ2 t2 a ∧ R n b T w0 μ2 s2 w := by
  have hlen := h.good.len
  obtain ⟨hl0, hfix⟩ := fixOk_spec h0
  have hnd := nodupB_spec hnd
  obtain ⟨hsl, hsg⟩ := viewSt_spec hs
  obtain ⟨htl, htg⟩ := viewSlots_spec ht
  generalize hμ2 : ids.map (fun id => (μ[id]?).getD dflt) = μ2
  have hμ2g : ∀ (i id : Nat), ids[i]? = some id → μ2[i]? = some ((μ[id]?).getD dflt) := by
    intro i id hi; rw [← hμ2, List.getElem?_map, hi]; rfl
  have hrel : SigRel (sigInv ids st.length) μ μ2 := by
    intro i id stt p hσ hp
    unfold sigInv at hσ
    rw [List.getElem?_map] at hσ
    have hi : i < st.length := by rw [← hlen]; exact (List.getElem?_eq_some_iff.1 hp).1
    rw [List.getElem?_range hi] at hσ
    simp only [Option.map_some, Option.some.injEq, Option.map_eq_some_iff] at hσ
    obtain ⟨j, hj, he⟩ := hσ
    simp at he; obtain ⟨rfl, rfl⟩ := he
    obtain ⟨_, hj2⟩ := posOf_spec hj
    rw [Nat.sub_zero] at hj2
    refine ⟨p, ?_, by simp⟩
    rw [hμ2g _ _ hj2, hp]; rfl
  have hpl2 : ∀ {i id : Nat} {r : Reg} {p : Place}, ids[i]? = some id → st[id]? = some (some r) → μ2[i]? = some p → μ[id]? = some p := by
    intro i id r p hi hr hp
    have hlt : id < μ.length := by rw [hlen]; exact (List.getElem?_eq_some_iff.1 hr).1
    rw [hμ2g i id hi, List.getElem?_eq_getElem hlt] at hp
    simp at hp; rw [← hp]; exact List.getElem?_eq_getElem hlt
  -- a region of the new state
  have hreg : ∀ {i : Nat} {r : Reg}, s2[i]? = some (some r) → ∃ id rF, ids[i]? = some id ∧ st[id]? = some (some rF) ∧ rF.kind = r.kind ∧ rF.cells.length = r.cells.length ∧
      ∀ (k : Nat) u, r.cells[k]? = some u → ∃ v, rF.cells[k]? = some v ∧ ∀ x, VR μ v x → VR μ2 u x := by
    intro i r hi
    obtain ⟨id, h1, h2⟩ := hsg i _ hi
    rw [Nat.zero_add] at h2
    rcases h2 with ⟨hc, h2⟩ | ⟨hc, h2⟩
    · cases hq : st[id]? with
      | none => rw [hq] at h2; simp [subReg] at h2
      | some q =>
        rw [hq] at h2
        cases q with
        | none => simp [subReg] at h2
        | some rF =>
          simp only [Option.getD_some, subReg] at h2
          split at h2
          · rename_i cs hcs
            simp at h2; subst h2
            obtain ⟨m1, m2⟩ := mapO_get hcs
            refine ⟨id, rF, h1, hq, rfl, m1.symm, fun k u hu => ?_⟩
            obtain ⟨v, hv, hsv⟩ := m2 k u hu
            exact ⟨v, hv, fun x hx => sub0_fwd hrel hsv hx⟩
          · cases h2
    · cases hq : st[id]? with
      | none => rw [hq] at h2; simp at h2
      | some q =>
        rw [hq] at h2
        simp at h2
        subst h2
        refine ⟨id, r, h1, hq, rfl, rfl, fun k u hu => ⟨u, hu, fun x hx => ?_⟩⟩
        rcases plainBut_spec hpl i _ hi with h | h
        · rw [Nat.zero_add, hc] at h; cases h
        · exact hx.plain0_any (List.all_eq_true.1 h u (List.mem_of_getElem? hu))
  have hins : ∀ {r rF : Reg} {p : Place} {b k : Nat}, rF.kind = r.kind → rF.cells.length = r.cells.length → (inside p r b k → inside p rF b k) ∧ (covers p r b k → covers p rF b k) := by
    intro r rF p b k h1 h2
    unfold inside covers
    rw [h1, h2]; exact ⟨id, id⟩
  have hlow : ∀ {i : Nat}, i < b → ids[i]? = some i := by
    intro i hi
    rcases hfix i (by omega) with h | ⟨r, e, h1, h2⟩
    · simpa using h
    · exact absurd h2 (hrow i r e hi h1)
  refine ⟨μ2, ?_, ⟨⟨by rw [htl]; exact ha.tmps.1, fun i u y hu hy => ?_⟩, ha.defers⟩, ⟨?_, ?_, ?_⟩, ?_, h.frame, h.le, ?_, by omega, ?_⟩
  · intro i p hi hp
    rw [hμ2g i i (hlow hi), hp]; rfl
  · obtain ⟨v, hv, hu2⟩ := htg i u hu
    rcases hu2 with hu2 | hu2
    · exact .inl hu2
    · rcases ha.tmps.2 i v y hv hy with h | h
      · have : v = unk := by
          unfold isUnk at h
          split at h
          · rfl
          · cases h
        subst this
        simp [sub, sub1, sub0, unk, Am.plain0] at hu2
      · exact .inr (sub_fwd hrel hu2 h)
  · rw [← hμ2]; simp [hsl]
  · intro i r p hi hp
    obtain ⟨id, rF, h1, h2, h3, h4, h5⟩ := hreg hi
    obtain ⟨g1, g2, g3⟩ := h.good.ok id rF p h2 (hpl2 h1 h2 hp)
    refine ⟨fun b k hin => g1 b k ((hins h3 h4).1 hin), fun k u hu => ?_, ?_⟩
    · obtain ⟨v, hv, hx⟩ := h5 k u hu
      obtain ⟨v', z1, z2⟩ := g2 k v hv
      exact ⟨v', z1, hx v' z2⟩
    · rw [← h3]
      cases hkind : rF.kind with
      | ro => trivial
      | rw => rw [hkind] at g3; exact fun k hk2 => g3 k (by omega)
      | row e => rw [hkind] at g3; obtain ⟨m0, m1, m2, hl3, hx⟩ := g3; exact ⟨m0, m1, m2, by omega, hx⟩
  · intro i j r r' p p' hij hi hj hp hp' b k hcv hin
    obtain ⟨id, rF, h1, h2, h3, h4, _⟩ := hreg hi
    obtain ⟨id', rF', k1, k2, k3, k4, _⟩ := hreg hj
    have hne : id ≠ id' := by
      intro e; subst e
      obtain ⟨l1, e1⟩ := List.getElem?_eq_some_iff.1 h1
      obtain ⟨l2, e2⟩ := List.getElem?_eq_some_iff.1 k1
      exact hij ((List.getElem_inj hnd).1 (e1.trans e2.symm))
    exact h.good.sep id id' rF rF' p p' hne h2 k2 (hpl2 h1 h2 hp) (hpl2 k1 k2 hp') b k ((hins h3 h4).2 hcv) ((hins k3 k4).1 hin)
  · intro b k ⟨i, r, p, hi, hp, hc⟩
    obtain ⟨id, rF, h1, h2, h3, h4, _⟩ := hreg hi
    exact h.own b k ⟨id, rF, p, h2, hpl2 h1 h2 hp, (hins h3 h4).2 hc⟩
  · intro i r p hi hp hb2
    obtain ⟨id, rF, h1, h2, h3, h4, _⟩ := hreg hi
    refine h.news id rF p h2 (hpl2 h1 h2 hp) ?_
    rcases hb2 with hb2 | ⟨e, he⟩
    · left
      apply Decidable.byContradiction
      intro hlt
      obtain ⟨l1, e1⟩ := List.getElem?_eq_some_iff.1 h1
      obtain ⟨l2, e2⟩ := List.getElem?_eq_some_iff.1 (hlow (i := id) (by omega))
      have := (List.getElem_inj hnd).1 (e1.trans e2.symm)
      omega
    · exact .inr ⟨e, h3.trans he⟩
  · intro i r e hi hr
    obtain ⟨id, rF, h1, h2, h3, h4, _⟩ := hreg hr
    rw [hlow hi] at h1; cases h1
    rw [← h3]
    exact h.prot.2 i rF e hi h2

theorem Runs.view {P : Program} {c : Code} {t s e t' s'} (h : Runs P c t s e t' s') {ids adr live : List Nat} {t2 : List Value} {s2 : St}
    (h0 : fixOk 0 s ids = true) (hnd : nodupB ids = true) (ht : viewSlots (sigInv ids s'.length) live 0 t' = some t2) (hs : viewSt (sigInv ids s'.length) adr s' 0 ids = some s2) (hpl : plainBut adr 0 s2 = true) :
    Runs P c t s e t2 s2 := by
  refine ⟨?_⟩
  intro n b T0 w0 μ a w Q ha hR hQ
  refine h.run ha hR fun μ' a' w' h1 h2 h3 => ?_
  obtain ⟨μ2, g1, g2, g3⟩ := h3.view h2 h0 hnd hR.prot.1 hR.prot.2 ht hs hpl
  exact hQ μ2 a' w' (h1.trans g1) g2 g3

/-- A step, run, and seen under new numbers. -/
def exV (T : Tab) (O : Orc) (h : Hint) (n : Nat) (c : Code) (ids adr live : List Nat) (t : List Value) (s : St) : ARes :=
  if fixOk 0 s ids && nodupB ids then match ex T O h n c t s with
  | some (e, t', s') => match viewSlots (sigInv ids s'.length) live 0 t', viewSt (sigInv ids s'.length) adr s' 0 ids with
    | some t2, some s2 => some (e, t2, s2)
    | _, _ => none
  | none => none else none

section
variable {P : Program} {T : Tab} (hT : TabOk P T) {O : Orc} (hO : OrcOk P O) (hmix : P.follows .mixedOrders = true)
include hT hO hmix
theorem exV_runs {h : Hint} {n : Nat} {c : Code} {ids adr live : List Nat} {t : List Value} {s : St} {e : AExit} {t2 : List Value} {s2 : St} (hP : exP P T O h n c t s True)
    (hv : exV T O h n c ids adr live t s = some (e, t2, s2)) (hpl : plainBut adr 0 s2 = true) : Runs P c t s e t2 s2 := by
  unfold exV at hv
  split at hv
  · rename_i hc
    simp only [Bool.and_eq_true] at hc
    split at hv
    · rename_i e1 t1 s1 h1
      split at hv
      · rename_i t3 s3 h2 h3
        simp at hv; obtain ⟨rfl, rfl, rfl⟩ := hv
        exact Runs.view (ex_runs hT hO hmix hP h1) hc.1 hc.2 h2 h3 hpl
      · cases hv
    · cases hv
  · cases hv
theorem exV_runs0 {n : Nat} {c : Code} {ids adr live : List Nat} {t : List Value} {s : St} {e : AExit} {t2 : List Value} {s2 : St}
    (hv : exV T O noHint n c ids adr live t s = some (e, t2, s2)) (hpl : plainBut adr 0 s2 = true) : Runs P c t s e t2 s2 := by
  refine exV_runs hT hO hmix ?_ hv hpl
  unfold exV at hv
  split at hv
  · split at hv
    · rename_i e1 t1 s1 h1
      exact exP_none h1 trivial
    · cases hv
  · cases hv
end

/-- A loop of k rounds. -/
theorem Runs.count {P : Program} {c : Code} (k : Nat) (t : Nat → List Value) (s : Nat → St) {e : AExit} {te : List Value} {se : St} (hstep : ∀ i, i < k → Runs P c (t i) (s i) .normal (t (i + 1)) (s (i + 1)))
    (hstop : Runs P c (t k) (s k) e te se) (he : e ≠ .normal) : Runs P (.loop c) (t 0) (s 0) e te se := by
  have : ∀ (m j : Nat), j + m = k → LoopRuns P c (m + 1) (t j) (s j) e te se := by
    intro m
    induction m with
    | zero => intro j hj; obtain rfl : j = k := by omega
              exact LoopRuns.stop hstop he
    | succ m ih => intro j hj; exact LoopRuns.step (hstep j (by omega)) (ih (j + 1) (by omega))
  exact (this k 0 (by omega)).runs

/-- What is nil may be thought of as a row without cells, to which can be appended. -/
theorem Runs.nilRow {P : Program} {c : Code} {t s e t' s'} {j z : Nat} (hj : t[j]? = some (.slice none 0 0)) (hz : z ≠ 0)
    (h : Runs P c (t.set j (.slice (some ⟨s.length, 0, some 1⟩) 0 0)) (s ++ [some ⟨[], .row z⟩]) e t' s') : Runs P c t s e t' s' := by
  refine ⟨?_⟩
  intro n b T0 w0 μ a w Q ha hR hQ
  refine h.run (μ := μ ++ [⟨w.heap.size, 0, 0, z⟩]) (a := a) ⟨⟨by simpa using ha.tmps.1, fun i x y hx hy => ?_⟩, ha.defers⟩ (hR.thin (.inr ⟨rfl, hz⟩)) fun μ' a' w' h1 h2 h3 => hQ μ' a' w' (((Ext.append _ _).upto _).trans h1) h2 h3
  rw [List.getElem?_set] at hx
  by_cases e : j = i
  · subst e
    rw [if_pos rfl] at hx
    split at hx
    · simp at hx; subst hx
      have := (ha.tmps.2 j _ y hj hy).resolve_left (by simp [isUnk])
      cases this
      exact .inr (.row0 _)
    · cases hx
  · rw [if_neg e] at hx
    exact (ha.tmps.2 i x y hx hy).mono (Ext.append _ _)

/-- So many slots, of which some are known. -/
def slotOf : List (Nat × Value) → Nat → Value
  | [], _ => unk
  | (j, v) :: r, i => if i = j then v else slotOf r i
def slotsGo (l : List (Nat × Value)) : Nat → Nat → List Value
  | 0, _ => []
  | n + 1, i => slotOf l i :: slotsGo l n (i + 1)
def slots (n : Nat) (l : List (Nat × Value)) : List Value := slotsGo l n 0

/-- The body of the loop whose first region is r. -/
def loopAt (r : Nat) : Code → Option Code
  | .seq a b => match loopAt r a with
    | some c => some c
    | none => loopAt r b
  | .cond _ a b => match loopAt r a with
    | some c => some c
    | none => loopAt r b
  | .block _ c => loopAt r c
  | .loop c => if firstReg c = some r then some c else loopAt r c
  | .scope c => loopAt r c
  | _ => none
def loopOf (r : Nat) (c : Code) : Code := (loopAt r c).getD .skip

end Go.Proofs.Ytggkdjhgknghcaa.Am
