/- This text holds a part of the machinery of the proof: a row is appended to, and what it was may still be looked at; a region run with such an append. Without conditions. -/
import Derived.Test.YtggkdjhgknghcaaRun
set_option linter.unusedSimpArgs false
set_option linter.unusedVariables false
set_option linter.unusedSectionVars false
namespace Go.Proofs.Ytggkdjhgknghcaa.Am

theorem RegOk.soft {μ : List Place} {w : World} {p : Place} {cs : List Value} {kd : RK} (h : RegOk μ w p ⟨cs, kd⟩) (m : Nat) : RegOk μ w p ⟨cs.take m, .ro⟩ := by
  obtain ⟨a, b, _⟩ := h
  refine ⟨fun bb k hin => a bb k ?_, fun k v hv => b k v ?_, trivial⟩
  · obtain ⟨h1, ⟨⟨e, he⟩, _⟩ | ⟨h2, h3⟩⟩ := hin
    · cases he
    · simp at h3; exact ⟨h1, .inr ⟨h2, by simp only; omega⟩⟩
  · simp only [List.getElem?_take] at hv
    split at hv
    · exact hv
    · cases hv
theorem inside_soft {p : Place} {cs : List Value} {kd : RK} {m b k : Nat} (h : inside p ⟨cs.take m, .ro⟩ b k) : inside p ⟨cs, kd⟩ b k := by
  obtain ⟨h1, ⟨⟨e, he⟩, _⟩ | ⟨h2, h3⟩⟩ := h
  · cases he
  · simp at h3; exact ⟨h1, .inr ⟨h2, by simp only; omega⟩⟩
theorem R.softenN {n b T w0 μ st w} (h : R n b T w0 μ st w) {i : Nat} {cs : List Value} {kd : RK} (hi : st[i]? = some (some ⟨cs, kd⟩)) (m : Nat) : R n b T w0 μ (st.set i (some ⟨cs.take m, .ro⟩)) w := by
  have key : ∀ {j : Nat} {r : Reg} {p : Place}, (st.set i (some ⟨cs.take m, .ro⟩))[j]? = some (some r) → (j = i ∧ r = ⟨cs.take m, .ro⟩) ∨ (j ≠ i ∧ st[j]? = some (some r)) := by
    intro j r p hj
    rcases getElem?_set_reg hj with ⟨h1, h2, _⟩ | ⟨h1, h2⟩
    · cases h2; exact .inl ⟨h1, rfl⟩
    · exact .inr ⟨h1, h2⟩
  refine ⟨⟨by simp [h.good.len], ?_, ?_⟩, ?_, h.frame, h.le, ?_, by simpa using h.prot.1, ?_⟩
  · intro j r p hj hp
    rcases key (p := p) hj with ⟨rfl, rfl⟩ | ⟨_, hj'⟩
    · exact (h.good.ok _ _ _ hi hp).soft m
    · exact h.good.ok j r p hj' hp
  · intro x y r r' p p' hxy hx hy hp hp' bb k hcv hin
    rcases key (p := p) hx with ⟨rfl, rfl⟩ | ⟨_, hx'⟩
    · exact absurd rfl hcv.1
    · rcases key (p := p') hy with ⟨rfl, rfl⟩ | ⟨_, hy'⟩
      · exact h.good.sep x _ r _ p p' hxy hx' hi hp hp' bb k hcv (inside_soft hin)
      · exact h.good.sep x y r r' p p' hxy hx' hy' hp hp' bb k hcv hin
  · rintro bb k ⟨j, r, p, hj, hp, hc⟩
    rcases key (p := p) hj with ⟨rfl, rfl⟩ | ⟨_, hj'⟩
    · exact absurd rfl hc.1
    · exact h.own bb k ⟨j, r, p, hj', hp, hc⟩
  · intro j r p hj hp hb
    rcases key (p := p) hj with ⟨rfl, rfl⟩ | ⟨_, hj'⟩
    · rcases hb with hb | ⟨e, he⟩
      · exact h.news j _ p hi hp (.inl hb)
      · cases he
    · exact h.news j r p hj' hp hb
  · intro j r e hj hr
    rcases key (p := dflt) hr with ⟨rfl, rfl⟩ | ⟨_, hj'⟩
    · exact fun h => by cases h
    · exact h.prot.2 j r e hj hj'
theorem R.soften {n b T w0 μ st w} (h : R n b T w0 μ st w) {i : Nat} {cs : List Value} {kd : RK} (hi : st[i]? = some (some ⟨cs, kd⟩)) : R n b T w0 μ (st.set i (some ⟨cs, .ro⟩)) w := by
  have := h.softenN hi cs.length
  rw [List.take_length] at this
  exact this
theorem R.addRo {n b T w0 μ st w} (h : R n b T w0 μ st w) {p : Place} {cs : List Value} (hok : RegOk μ w p ⟨cs, .ro⟩) (hno : ∀ (j : Nat) r q, st[j]? = some (some r) → μ[j]? = some q → ∀ b k, covers q r b k → ¬ inside p ⟨cs, .ro⟩ b k) (hn : n ≤ p.block) :
    R n b T w0 (μ ++ [p]) (st ++ [some ⟨cs, .ro⟩]) w := by
  have hlen := h.good.len
  have hold : ∀ {j : Nat} {p q : Place}, (μ ++ [q])[j]? = some p → j < st.length → μ[j]? = some p := by
    intro j p q hp hj
    rw [List.getElem?_append_left (by omega)] at hp; exact hp
  have hnew : ∀ {p q : Place}, (μ ++ [q])[st.length]? = some p → p = q := by
    intro p q hp
    rw [← hlen] at hp; simp at hp; exact hp.symm
  have hm : ∀ {r q}, RegOk μ w q r → RegOk (μ ++ [p]) w q r := fun ⟨a, b, c⟩ =>
    ⟨a, fun k v hv => let ⟨v', h1, h2⟩ := b k v hv; ⟨v', h1, h2.mono (Ext.append _ _)⟩, c⟩
  refine ⟨⟨by simp [hlen], ?_, ?_⟩, ?_, h.frame, h.le, ?_, by have := h.prot.1; simp; omega, fun j q e2 hj hq => ?_⟩
  · intro j r q hj hq
    rcases getElem?_snoc_reg hj with ⟨rfl, rfl⟩ | ⟨hl', hj'⟩
    · cases hnew hq; exact hm hok
    · exact hm (h.good.ok j r q hj' (hold hq hl'))
  · intro i j r r' q q' hij hi hj hq hq' bb k hcv hin
    rcases getElem?_snoc_reg hi with ⟨rfl, rfl⟩ | ⟨hl1, hi'⟩
    · exact absurd rfl hcv.1
    · rcases getElem?_snoc_reg hj with ⟨rfl, rfl⟩ | ⟨hl2, hj'⟩
      · cases hnew hq'; exact hno i r q hi' (hold hq hl1) bb k hcv hin
      · exact h.good.sep i j r r' q q' hij hi' hj' (hold hq hl1) (hold hq' hl2) bb k hcv hin
  · rintro bb k ⟨i, r, q, hi, hq, hc⟩
    rcases getElem?_snoc_reg hi with ⟨rfl, rfl⟩ | ⟨hl1, hi'⟩
    · exact absurd rfl hc.1
    · exact h.own bb k ⟨i, r, q, hi', hold hq hl1, hc⟩
  · intro i r q hi hq hb
    rcases getElem?_snoc_reg hi with ⟨rfl, rfl⟩ | ⟨hl1, hi'⟩
    · cases hnew hq; exact hn
    · exact h.news i r q hi' (hold hq hl1) hb
  · have := h.prot.1
    rcases getElem?_snoc_reg hq with ⟨rfl, _⟩ | ⟨_, hj'⟩
    · omega
    · exact h.prot.2 j q e2 hj hj'
/-- What a row holds may be looked at twice. -/
theorem R.share {n b T w0 μ st w} (h : R n b T w0 μ st w) {i m e : Nat} {cs : List Value} {p : Place} (hi : st[i]? = some (some ⟨cs, .row e⟩)) (hp : μ[i]? = some p) :
    R n b T w0 (μ ++ [p]) (st.set i (some ⟨cs.take m, .ro⟩) ++ [some ⟨cs, .ro⟩]) w := by
  have hs := h.softenN hi m
  have hk := (h.good.ok i _ p hi hp).soft cs.length
  rw [List.take_length] at hk
  refine hs.addRo hk (fun j r q hj hq bb k hcv hin => ?_) (h.news i _ p hi hp (.inr ⟨e, rfl⟩))
  rcases getElem?_set_reg hj with ⟨h1, h2, _⟩ | ⟨h1, h2⟩
  · cases h2; exact absurd rfl hcv.1
  · refine h.good.sep j i r _ q p h1 h2 hi hq hp bb k hcv ?_
    have : inside p ⟨cs.take cs.length, .ro⟩ bb k := by rw [List.take_length]; exact hin
    exact inside_soft this

section
variable {P : Program} {T : Tab} (hT : TabOk P T) {O : Orc} (hO : OrcOk P O) {n b : Nat} {T0 : Nat → Nat → Prop} {w0 : World} {μ : List Place}
include hT in
theorem keep_does {st : St} {w : World} (h : R n b T0 w0 μ st w) {sT xT r e : TypeId} {d : TypeDesc} {s' x x' : Value} {j len c k size bytes : Nat} {z : Value} {new : List Value} {rg : Reg} (hlen0 : len ≠ 0)
    (hu : T.und sT = some (.slice e)) (hux : T.und xT = some d) (hnint : ∀ kk, d ≠ .int kk) (hsz : T.sz e = some size) (hby : T.byt e = some bytes) (hz : T.zero e = some z) (hsrc : source st size x = some (k, new))
    (hsize : size ≠ 0) (hbytes : bytes ≠ 0) (hzs : z.cells.size = size) (hone : new.all oneC = true) (hrg : st[j]? = some (some rg)) (hkind : rg.kind = .row size) (hlen : rg.cells.length = len * size) (hlim : (len + k) * bytes ≤ 140737488355328)
    (hs : VR μ (.slice (some ⟨j, 0, some 1⟩) len c) s') (hx : VR μ x x') :
    Does P n b T0 w0 μ w (Builtin.append_ #[sT, xT] r #[s', x']) (.slice (some ⟨st.length, 0, none⟩) (len + k) (len + k)) (st.set j (some ⟨rg.cells, .ro⟩) ++ [some ⟨rg.cells ++ new, .ro⟩]) := by
  obtain ⟨i, hi, hib⟩ := hT.byt e bytes hby
  have hmt : (match (generalizing := false) d with | TypeDesc.int k => true | x => false) = false := by
    cases d <;> first | rfl | exact absurd rfl (hnint _)
  have hti : ∀ w, (typeInfo e).run P w = .ok i w := by intro w; simp [typeInfo, hi]
  -- what a new row comes to
  have grow : ∀ (a' : Option Addr) (len cap : Nat) (olds : List Value) (olds' : List Value) (stk : St), s' = .slice a' len cap → cap < len + k → (len + k) * bytes ≤ 140737488355328 →
      (Builtin.firstCells size len s').run P w = .ok olds'.toArray w → VRs μ olds olds' → olds.length = len * size → R n b T0 w0 μ stk w → stk.length = st.length →
      Does P n b T0 w0 μ w (Builtin.append_ #[sT, xT] r #[s', x']) (.slice (some ⟨st.length, 0, some 1⟩) (len + k) (len + k)) (stk ++ [some ⟨olds ++ new, .row size⟩]) := by
    intro a' len cap olds olds' stk hs' hlt hlim hold hov hol hRk hlk
    obtain ⟨new', n1, n2, n3, n4⟩ := source_sound (P := P) h.good hsrc hx
    have hnc := nextcap_le (len + k) cap hlt
    have hle48 : Builtin.nextslicecap (len + k) cap * bytes ≤ 281474976710656 := by
      have := Nat.mul_le_mul_right bytes hnc
      rw [Nat.mul_assoc] at this
      omega
    generalize hcap : (Question.appendCap (len + k) cap e).cut (w.tape w.drawn (.appendCap (len + k) cap e)) = nc
    have hncle : len + k ≤ nc := by rw [← hcap]; exact Nat.le_add_right _ _
    generalize hw1 : ({ w with drawn := w.drawn + 1 } : World) = w1
    have hR1 : R n b T0 w0 μ stk w1 := by subst hw1; exact hRk.drew rfl rfl rfl rfl
    have hR1' : R n b T0 w0 μ st w1 := by subst hw1; exact h.drew rfl rfl rfl rfl
    obtain ⟨new2, m1, m2, m3, m4⟩ := source_sound (P := P) hR1'.good hsrc hx
    have hold1 : (Builtin.firstCells size len s').run P w1 = .ok olds'.toArray w1 := by
      rw [hs'] at hold ⊢
      unfold Builtin.firstCells at hold ⊢
      cases a' with
      | none => simp at hold ⊢; exact hold
      | some a' =>
        simp only at hold ⊢
        have key : ∀ (m j : Nat) (acc : Array Value) out, (loadCellsFrom a' j m acc).run P w = .ok out w → (loadCellsFrom a' j m acc).run P w1 = .ok out w1 := by
          intro m
          induction m with
          | zero => intro j acc out hh; simp [loadCellsFrom] at hh ⊢; exact hh
          | succ m ih =>
            intro j acc out hh
            simp only [loadCellsFrom, Sem.run_bind, run_load] at hh ⊢
            have hcw : w1.cell? (a'.add j) = w.cell? (a'.add j) := by subst hw1; rfl
            rw [hcw]
            cases hc : w.cell? (a'.add j) with
            | some u => rw [hc] at hh; simp only [Result.andThen_ok] at hh ⊢; exact ih _ _ _ hh
            | none =>
              rw [hc] at hh
              simp only at hh ⊢
              cases hf : w.farLoad P (a'.add j) (Mode.plain == Mode.atomic) with
              | ok u =>
                have hf1 : w1.farLoad P (a'.add j) (Mode.plain == Mode.atomic) = .ok u := by subst hw1; exact hf
                rw [hf] at hh; rw [hf1]
                simp only [Result.andThen_ok] at hh ⊢; exact ih _ _ _ hh
              | error u => rw [hf] at hh; simp at hh
        exact key _ _ _ _ hold
    generalize hrest : Builtin.zeroCells z.cells (nc - (len + k)) = rest
    have hrl : rest.size = (nc - (len + k)) * size := by rw [← hrest]; simp [Builtin.zeroCells, hzs]
    generalize hys : olds'.toArray ++ new2.toArray ++ rest = ys
    have hvv := (hov.append m3)
    have hysz : ys.size = nc * size := by
      rw [← hys]
      simp only [Array.size_append, List.size_toArray, hrl]
      rw [← hov.1, ← m3.1, hol, m4, ← Nat.add_mul, ← Nat.add_mul]
      congr 1; omega
    have hg : ∀ (i : Nat) a b, (olds ++ new)[i]? = some a → ys[i]? = some b → VR μ a b := by
      intro i a b ha hb
      have hi : i < (olds ++ new).length := (List.getElem?_eq_some_iff.1 ha).1
      have hi' : i < (olds' ++ new2).length := hvv.1 ▸ hi
      rw [← hys, Array.getElem?_append_left (by simp at hi' ⊢; omega)] at hb
      refine hvv.2 i a b ha ?_
      have : olds'.toArray ++ new2.toArray = (olds' ++ new2).toArray := by simp
      rw [this] at hb; simpa using hb
    have hle : (olds ++ new).length ≤ ys.size := by
      rw [hysz, List.length_append, hol, m4, ← Nat.add_mul]
      exact Nat.mul_le_mul_right _ hncle
    have hfin := hR1.alloc (t := e) (xs := olds ++ new) (ys := ys) (kind := .row size) (esz := size) (by simp) (.inr ⟨rfl, hsize⟩) hle hg (0, 0) ⟨by simp, by simp⟩
    refine ⟨_, .slice (some ⟨w1.heap.size, 0, none⟩) (len + k) nc, _, ?_, Ext.append _ _, ?_, hfin⟩
    · rw [hs'] at hold1 ⊢
      unfold Builtin.append_
      simp only [List.getElem?_toArray, List.getElem?_cons_zero, List.getElem?_cons_succ]
      simp only [Sem.run_bind, run_und hT hu, Result.andThen_ok, run_sz hT hsz]
      simp only [Sem.run_bind, run_und hT hux, Result.andThen_ok, Sem.run_pure, hmt, Bool.false_eq_true, if_false, n1]
      rw [Sem.run_ite, if_neg (by omega)]
      simp only [Sem.run_bind, hti, Result.andThen_ok, hib]
      rw [Sem.run_ite, if_neg (by simp; omega)]
      simp only [Sem.run_bind, hti, Result.andThen_ok, hib]
      rw [Sem.run_ite, if_neg (by omega)]
      simp only [Sem.run_bind, run_choose, Question.forced, Bool.false_eq_true, if_false, Result.andThen_ok, hcap, hw1, hti, Sem.run_pure, run_askRoom, hold1, Bool.not_false, if_true, m2, run_zero hT hz, hrest, newRow_run, hys]
    · exact .row _ _ _ _ _ (ptr_new (by rw [h.good.len]) _) hncle rfl hsize (by simp only [hysz]; exact Nat.le_refl _)
  cases hs with
  | row0 => exact absurd rfl hlen0
  | row _ _ _ c' p hp hc hoff hesz hlm =>
    obtain ⟨hb, hcells, hkd⟩ := h.good.ok j rg p hrg hp
    simp only [hkind] at hkd
    obtain ⟨_, hpe, _, _⟩ := hkd
    by_cases hroom : len + k ≤ c'
    · -- there is room
      obtain ⟨new', n1, n2, n3, n4⟩ := source_sound (P := P) h.good hsrc hx
      have hlim2 : rg.cells.length + new.length ≤ p.lim := by
        rw [hlen, n4, ← Nat.add_mul]
        refine Nat.le_trans (Nat.mul_le_mul_right _ hroom) ?_
        rw [← hpe]; exact hlm
      obtain ⟨w', hw1, hw2⟩ := storeCells_put (P := P) new new' st w j rg.cells.length 0 p.block (p.off + rg.cells.length) rg p h hrg hp n3 hone rfl (by omega)
        (.inr ⟨size, hkind, Nat.le_refl _, hlim2⟩)
      rw [putMany_eq _ _ _ (Nat.le_refl _), List.take_length, List.drop_eq_nil_of_le (by omega), List.append_nil] at hw2
      have hi2 : (st.set j (some { rg with cells := rg.cells ++ new }))[j]? = some (some { rg with cells := rg.cells ++ new }) := by
        rw [List.getElem?_set, if_pos rfl, if_pos (List.getElem?_eq_some_iff.1 hrg).1]
      have hi3 : (st.set j (some { rg with cells := rg.cells ++ new }))[j]? = some (some ⟨rg.cells ++ new, .row size⟩) := by rw [hi2, ← hkind]
      have hw3 := hw2.share (m := rg.cells.length) hi3 hp
      rw [List.set_set, List.take_left' rfl] at hw3
      refine ⟨μ ++ [p], .slice (some ⟨p.block, 0, none⟩) (len + k) c', w', ?_, Ext.append _ _, ?_, hw3⟩
      · unfold Builtin.append_
        simp only [List.getElem?_toArray, List.getElem?_cons_zero, List.getElem?_cons_succ]
        simp only [Sem.run_bind, run_und hT hu, Result.andThen_ok, run_sz hT hsz]
        simp only [Sem.run_bind, run_und hT hux, Result.andThen_ok, Sem.run_pure, hmt, Bool.false_eq_true, if_false, n1]
        rw [Sem.run_ite, if_pos hroom]
        simp only [Sem.run_bind, Bool.not_false, if_true, n2, Result.andThen_ok, add_none, Nat.zero_add]
        rw [hoff, hlen, Nat.zero_add] at hw1
        simp only [hw1, Result.andThen_ok, Sem.run_pure]
      · have := VR.slice (μ := μ ++ [p]) st.length 0 (len + k) (len + k) c' p (ptr_new h.good.len _) hroom
        rw [hoff] at this
        exact this
    · -- a new row
      have hrd : rd st j 0 (len * size) = some rg.cells := by
        unfold rd; rw [hrg]; simp only; rw [if_pos (by omega), ← hlen]; simp
      obtain ⟨olds', h1, h2, h3⟩ := rd_sound (P := P) h.good hrd hp
      obtain ⟨μ', r', w', q1, q2, q3, q4⟩ := grow (some ⟨p.block, 0, none⟩) len c' rg.cells olds' st rfl (by omega) hlim (by
        show (loadCells ⟨p.block, 0, none⟩ (len * size)).run P w = _
        rw [hoff] at h1; exact h1) h2 hlen h rfl
      have hjl := (List.getElem?_eq_some_iff.1 hrg).1
      have s1 := q4.soften (i := j) (cs := rg.cells) (kd := .row size) (by rw [List.getElem?_append_left hjl, hrg, ← hkind])
      rw [List.set_append_left _ _ hjl] at s1
      have s2 := s1.soften (i := st.length) (cs := rg.cells ++ new) (kd := .row size) (by rw [List.getElem?_append_right (by simp)]; simp)
      rw [List.set_append_right _ _ (by simp)] at s2
      simp only [List.length_set, Nat.sub_self, List.set_cons_zero] at s2
      refine ⟨μ', r', w', q1, q2, ?_, s2⟩
      have hm0 : len + k ≠ 0 := by omega
      generalize len + k = mm at hm0 q3 ⊢
      generalize st.length = sl at q3 ⊢
      cases q3 with
      | row _ _ _ c2 p2 hp2 hc2 ho2 _ _ =>
        have := VR.slice (μ := μ') sl 0 mm mm c2 p2 hp2 hc2
        rw [ho2] at this
        exact this
      | row0 => exact absurd rfl hm0
include hT hO in
theorem aops_pre {ops : Array Oper} {Q : Exit → Act → World → Prop} : ∀ (rest : List Oper) (i : Nat) (L : List Nat) (t : List Value) (st : St) (is : List Info) (t' : List Value) (st' : St) (μ : List Place) (a : Act) (w : World),
    (∀ j o, rest[j]? = some o → ops[i + j]? = some o) → aops T O ops.toList rest t st = some (is, t', st') → AR μ t a → R n b T0 w0 μ st w →
    (∀ μ' a' w', Ext μ μ' → AR μ' t' a' → R n b T0 w0 μ' st' w' → wpOps P ops Q L a' w') → wpOps P ops Q (List.range' i rest.length ++ L) a w := by
  intro rest
  induction rest with
  | nil =>
    intro i L t st is t' st' μ a w _ h ha hR hQ
    simp [aops] at h; obtain ⟨rfl, rfl, rfl⟩ := h
    exact hQ μ a w (Ext.refl _) ha hR
  | cons o r ih =>
    intro i L t st is t' st' μ a w hget h ha hR hQ
    simp only [aops] at h
    split at h
    · rename_i v s1 inf h1
      split at h
      · rename_i is2 t2 s2 h2
        simp at h; obtain ⟨rfl, rfl, rfl⟩ := h
        rw [List.length_cons, List.range'_succ, List.cons_append, wpOps_cons]
        refine astep_wp hT hO (by simpa using hget 0 o rfl) h1 ha hR ?_
        intro μ' a' w' e1 e2 e3
        refine ih (i + 1) L _ _ _ _ _ μ' a' w' (fun j o' hj => ?_) h2 e2 e3 fun μ2 a2 w2 f1 f2 f3 => hQ μ2 a2 w2 (e1.trans f1) f2 f3
        have := hget (j + 1) o' (by simpa using hj)
        rw [show i + 1 + j = i + (j + 1) from by omega]; exact this
      · cases h
    · cases h
end
/-- A region, run, of which operation q appends to a row that is still looked at behind it. -/
theorem keep_runs {P : Program} {T : Tab} (hT : TabOk P T) {O : Orc} (hO : OrcOk P O) {id q : Nat} {ops : Array Oper} {t t1 t3 : List Value} {s s1 s3 : St} {is1 is3 : List Info} {o : Oper} {xs ys : Operand} {sT xT e : TypeId} {d : TypeDesc} {x z : Value} {j len c k size bytes : Nat} {new : List Value} {rg : Reg}
    (h1 : aops T O ops.toList (ops.toList.take q) t s = some (is1, t1, s1)) (ho : ops[q]? = some o) (hop : o.op = .call ⟨.builtin .append, #[xs, ys], #[sT, xT]⟩) (hg : o.guard = none)
    (e3 : aeval t1 xs = some (.slice (some ⟨j, 0, some 1⟩) len c)) (e4 : aeval t1 ys = some x) (hlen0 : len ≠ 0)
    (hu : T.und sT = some (.slice e)) (hux : T.und xT = some d) (hnint : ∀ kk, d ≠ .int kk) (hsz : T.sz e = some size) (hby : T.byt e = some bytes) (hz : T.zero e = some z) (hsrc : source s1 size x = some (k, new))
    (hsize : size ≠ 0) (hbytes : bytes ≠ 0) (hzs : z.cells.size = size) (hone : new.all oneC = true) (hrg : s1[j]? = some (some rg)) (hkind : rg.kind = .row size) (hlen : rg.cells.length = len * size) (hlim : (len + k) * bytes ≤ 140737488355328)
    (h3 : aops T O ops.toList (ops.toList.drop (q + 1)) (aput o.dst (.slice (some ⟨s1.length, 0, none⟩) (len + k) (len + k)) t1) (s1.set j (some ⟨rg.cells, .ro⟩) ++ [some ⟨rg.cells ++ new, .ro⟩]) = some (is3, t3, s3)) :
    Runs P (.region id ops false) t s .normal t3 s3 := by
  refine ⟨?_⟩
  intro n b T0 w0 μ a w Q ha hR hQ
  refine wp_region ?_
  have hq : q < ops.size := (Array.getElem?_eq_some_iff.1 ho).1
  have hl1 : (ops.toList.take q).length = q := by simp; omega
  have hl3 : (ops.toList.drop (q + 1)).length = ops.size - (q + 1) := by simp
  have hsplit : List.range ops.size = List.range' 0 (ops.toList.take q).length ++ (q :: (List.range' (q + 1) (ops.toList.drop (q + 1)).length ++ [])) := by
    have e : List.range' 0 q ++ List.range' (0 + q) (ops.size - (q + 1) + 1) = List.range' 0 (q + (ops.size - (q + 1) + 1)) := List.range'_append_1
    rw [List.range'_succ, Nat.zero_add] at e
    rw [hl1, hl3, List.append_nil, List.range_eq_range', e]
    exact congrArg (List.range' 0) (by omega)
  have hlist : ∀ L, wpOps P ops Q L a w → L = List.range ops.size → wpOps P ops Q (List.range ops.size) a w := fun L h e => e ▸ h
  refine hlist _ (aops_pre hT hO (ops.toList.take q) 0 _ t s is1 t1 s1 μ a w (fun j o' hj => ?_) h1 ha hR fun μ' a' w' f1 f2 f3 => ?_) hsplit.symm
  · rw [List.getElem?_take] at hj
    split at hj
    · rw [Nat.zero_add]; simpa using hj
    · cases hj
  · rw [wpOps_cons]
    unfold wpOp
    simp only [ho]
    have hw : Region.wanted o (yielded ops a'.tmps) = true := by simp [Region.wanted, hg]
    rw [if_pos hw]
    refine .inl ?_
    obtain ⟨dst, op, ty, pos, after, guard⟩ := o
    simp only at hop hg h3
    subst hop
    obtain ⟨μ2, r, w2, g1, g2, g3, g4⟩ := keep_does (r := ty) hT f3 hlen0 hu hux hnint hsz hby hz hsrc hsize hbytes hzs hone hrg hkind hlen hlim (aeval_sound f2.tmps e3) (aeval_sound f2.tmps e4)
    refine wp_of_run (r := r) (w' := w2) ?_ ?_
    · have he : execOp a'.eval ⟨dst, .call ⟨.builtin .append, #[xs, ys], #[sT, xT]⟩, ty, pos, after, guard⟩ = (do pure (.value (← Builtin.append_ #[sT, xT] ty #[a'.eval xs, a'.eval ys]))) := by simp [execOp, resolve, invoke, builtin]
      rw [he]; simp [Sem.run_bind, g1]
    · refine aops_pre hT hO (ops.toList.drop (q + 1)) (q + 1) [] _ _ is3 t3 s3 μ2 _ w2 (fun j o' hj => ?_) h3 ((f2.mono g2).put g3 dst) g4 fun μ3 a3 w3 p1 p2 p3 => hQ μ3 a3 w3 (((f1.trans g2).trans p1).upto b) p2 p3
      rw [List.getElem?_drop] at hj
      simpa using hj
end Go.Proofs.Ytggkdjhgknghcaa.Am
