/- More of bytes in lists, and calls with them, for the abstract machine: without conditions. -/
import Derived.Test.YtggkdjhgknghcaaByt
namespace Go.Proofs.Ytggkdjhgknghcaa.Run
open Am IntWalk

theorem append_one {st : St} {i k : Nat} {a : List Int} {x : Int} (h : st[i]? = some (byR a (.row 1))) (hk : a.length = k) (hl : k + 1 ≤ 140737488355328) :
    appendCore st 1 1 (.int .u8 0) (rowR i k) (some (1, [.int .u8 x])) = some (rowR st.length (k + 1), st.set i none ++ [byR (a ++ [x]) (.row 1)], [i]) := by
  have := append_row (i := i) (c := k) (l := [x]) h (by simpa [hk] using hl)
  rw [hk] at this
  exact this
theorem sub_i64 {a b c : Int} (h : a - b = c) (h1 : -9223372036854775808 ≤ c ∧ c ≤ 9223372036854775807) : aint .sub .i64 a b = some (.int .i64 c) := by
  simp [aint, h, i64_in c h1]
/-- The first k numbers of v. -/
def firsts (v : Nat → Int) (k : Nat) : List Int := (List.range k).map v
theorem firsts_length (v : Nat → Int) (k : Nat) : (firsts v k).length = k := by simp [firsts]
theorem firsts_succ (v : Nat → Int) (k : Nat) : firsts v (k + 1) = firsts v k ++ [v k] := by simp [firsts, List.range_succ]
theorem getD_get {l : List Int} {i : Nat} (h : i < l.length) : l[i]? = some (l.getD i 0) := by
  rw [List.getD_eq_getElem?_getD, List.getElem?_eq_getElem h]; rfl
theorem firsts_getD (l : List Int) : firsts (fun i => l.getD i 0) l.length = l := by
  apply List.ext_getElem?
  intro i
  by_cases h : i < l.length
  · rw [firsts, List.getElem?_map, List.getElem?_range h, getD_get h]; rfl
  · rw [List.getElem?_eq_none (by rw [firsts_length]; omega), List.getElem?_eq_none (by omega)]

/-! Calls: what is handed over. -/
/-- A slice of bytes that stand in a region: the value, the region, where they begin, and they. -/
structure Bys (st : St) (v : Value) (i off : Nat) (l : List Int) : Prop where
  ex : ∃ a c cs kd, v = .slice a l.length c ∧ sbase a = some (i, off) ∧ l.length ≤ c ∧ st[i]? = some (byR cs kd) ∧ off + l.length ≤ cs.length ∧ (cs.drop off).take l.length = l
theorem Bys.all {st : St} {i : Nat} {l : List Int} {kd : RK} (h : st[i]? = some (byR l kd)) : Bys st (slR i l.length) i 0 l :=
  ⟨_, _, l, kd, rfl, rfl, Nat.le_refl _, h, by omega, by simp⟩
theorem Bys.row {st : St} {i : Nat} {l : List Int} {kd : RK} (h : st[i]? = some (byR l kd)) : Bys st (rowR i l.length) i 0 l :=
  ⟨_, _, l, kd, rfl, rfl, Nat.le_refl _, h, by omega, by simp⟩
theorem Bys.part {st : St} {i off n c : Nat} {cs : List Int} {kd : RK} (h : st[i]? = some (byR cs kd)) (hn : off + n ≤ cs.length) (hc : n ≤ c) : Bys st (.slice (some ⟨i, off, none⟩) n c) i off ((cs.drop off).take n) := by
  have hl : ((cs.drop off).take n).length = n := by simp; omega
  exact ⟨_, c, cs, kd, by rw [hl], rfl, by omega, h, by omega, by rw [hl]⟩
theorem Bys.bare {st : St} {v : Value} {i off : Nat} {l : List Int} (h : Bys st v i off l) (w : Bool) : bare (.sl w) v = false := by
  obtain ⟨a, c, cs, kd, rfl, hb, _⟩ := h.ex
  simp only [Am.bare, hb]
theorem Bys.pick {st : St} {v : Value} {i off : Nat} {l : List Int} (h : Bys st v i off l) (w : Bool) (e idx : Nat) : pick1 e idx (.sl w) v = some (slR idx l.length, some ⟨i, off, l.length, w⟩) := by
  obtain ⟨a, c, cs, kd, rfl, hb, hc, _⟩ := h.ex
  simp only [pick1, hb, if_pos hc, slR]
theorem Bys.small {st : St} {v : Value} {i off : Nat} {l : List Int} (h : Bys st v i off l) {r : List (Option Fp)} {q : St} (hr : smalls st r = some q) : smalls st (some ⟨i, off, l.length, false⟩ :: r) = some (byR l .ro :: q) := by
  obtain ⟨a, c, cs, kd, rfl, hb, hc, hs, hn, hl⟩ := h.ex
  have e : ((cs.map (Value.int .u8)).drop off).take l.length = l.map (.int .u8) := by rw [← List.map_drop, ← List.map_take, hl]
  simp only [smalls, hs, byR, e, hr]
  rw [if_pos ⟨by simpa using hn, plain_u8 l, by simp⟩]
  simp
theorem smalls_none {st : St} {r : List (Option Fp)} {q : St} (hr : smalls st r = some q) : smalls st (none :: r) = some (none :: q) := by simp only [smalls, hr]
theorem smalls_nil {st : St} : smalls st [] = some [] := rfl

theorem smalls_length : ∀ {fps : List (Option Fp)} {st sst : St}, smalls st fps = some sst → sst.length = fps.length := by
  intro fps
  induction fps with
  | nil => intro st sst h; simp [smalls] at h; subst h; rfl
  | cons a r ih =>
    intro st sst h
    cases a with
    | none =>
      simp only [smalls] at h
      split at h
      · rename_i l hl; cases h; simp [ih hl]
      · cases h
    | some f =>
      simp only [smalls] at h
      split at h
      · split at h
        · split at h
          · rename_i l hl; cases h; simp [ih hl]
          · cases h
        · cases h
      · cases h
theorem wb_look : ∀ {fps : List (Option Fp)} {st q : St}, q.length = fps.length → (∀ f, some f ∈ fps → f.w = false) → wb st fps q = some st := by
  intro fps
  induction fps with
  | nil => intro st q _ _; simp [wb]
  | cons a r ih =>
    intro st q hq hf
    cases q with
    | nil => simp at hq
    | cons x q =>
      have := ih (st := st) (q := q) (by simpa using hq) fun f hm => hf f (by simp [hm])
      cases a with
      | none => simp only [wb, this]
      | some f => simp only [wb, hf f (by simp), this]; rfl
/-- A call, piece by piece. -/
theorem gcall0_do {e : Nat} {ks : List AK} {spec : List Value → St → Option (Value × St)} {args sargs : List Value} {fps : List (Option Fp)} {st sst sst' st1 news : St} {res : Value}
    (hp : picks e ks 0 args = some (sargs, fps)) (hs : smalls st fps = some sst) (hd : disjFps fps = true) (hspec : spec sargs sst = some (res, sst' ++ news)) (hl : sst'.length = fps.length)
    (hw : wb st fps sst' = some st1) {news' : St} {res' : Value} (hn : mapO (subReg (sigOf fps st.length news.length)) news = some news') (hr : sub (sigOf fps st.length news.length) res = some res') :
    gcall0 e ks spec args st = some (res', st1 ++ news') := by
  unfold gcall0
  rw [hp]
  simp only [hs, hd, if_true, hspec]
  have e1 : (sst' ++ news).take fps.length = sst' := by rw [← hl]; simp
  have e2 : (sst' ++ news).drop fps.length = news := by rw [← hl]; simp
  have e3 : (sst' ++ news).length - fps.length = news.length := by rw [← hl]; simp
  rw [e1, hw, e2, e3]
  simp only [hn, hr]
theorem gcall_of0 {ks : List AK} {spec : List Value → St → Option (Value × St)} {args : List Value} {st : St} (hb : bares ks args = false) : gcall ks spec args st = gcall0 0 ks spec args st := by
  unfold gcall; rw [if_neg (by simp [hb])]
theorem gcall_bare {ks : List AK} {spec : List Value → St → Option (Value × St)} {args : List Value} {st : St} (hb : bares ks args = true) : gcall ks spec args st = gcall0 st.length ks spec args (st ++ [some ⟨[], .rw⟩]) := by
  unfold gcall; rw [if_pos hb]
theorem gcall0_look {e : Nat} {ks : List AK} {spec : List Value → St → Option (Value × St)} {args sargs : List Value} {fps : List (Option Fp)} {st sst news : St} {res : Value}
    (hp : picks e ks 0 args = some (sargs, fps)) (hs : smalls st fps = some sst) (hd : disjFps fps = true) (hspec : spec sargs sst = some (res, sst ++ news))
    (hw : ∀ f, some f ∈ fps → f.w = false) {news' : St} {res' : Value} (hn : mapO (subReg (sigOf fps st.length news.length)) news = some news') (hr : sub (sigOf fps st.length news.length) res = some res') :
    gcall0 e ks spec args st = some (res', st ++ news') :=
  gcall0_do hp hs hd hspec (smalls_length hs) (wb_look (smalls_length hs) hw) hn hr
/-- A call that only looks. -/
theorem gcall_look {ks : List AK} {spec : List Value → St → Option (Value × St)} {args sargs : List Value} {fps : List (Option Fp)} {st sst news : St} {res : Value}
    (hb : bares ks args = false) (hp : picks 0 ks 0 args = some (sargs, fps)) (hs : smalls st fps = some sst) (hd : disjFps fps = true) (hspec : spec sargs sst = some (res, sst ++ news))
    (hw : ∀ f, some f ∈ fps → f.w = false) {news' : St} {res' : Value} (hn : mapO (subReg (sigOf fps st.length news.length)) news = some news') (hr : sub (sigOf fps st.length news.length) res = some res') :
    gcall ks spec args st = some (res', st ++ news') := by
  rw [gcall_of0 hb]
  exact gcall0_look hp hs hd hspec hw hn hr
/-- The same, where nothing comes to be. -/
theorem gcall_see {ks : List AK} {spec : List Value → St → Option (Value × St)} {args sargs : List Value} {fps : List (Option Fp)} {st sst : St} {res : Value}
    (hb : bares ks args = false) (hp : picks 0 ks 0 args = some (sargs, fps)) (hs : smalls st fps = some sst) (hd : disjFps fps = true) (hspec : spec sargs sst = some (res, sst))
    (hw : ∀ f, some f ∈ fps → f.w = false) (hr : plain res = true) : gcall ks spec args st = some (res, st) := by
  have := gcall_look (news := []) (news' := []) hb hp hs hd (by simpa using hspec) hw rfl (sub_plain hr)
  simpa using this
/-! What is owed for a call that was told ahead. -/
def callE (ks : List AK) (spec : List Value → St → Option (Value × St)) (args : List Value) (st : St) : Option (Value × St × List Nat) :=
  match gcall ks spec args st with
  | some (v, st') => some (v, st', gfoot ks args st)
  | none => none
theorem readIds_foot : ∀ {fps : List (Option Fp)} {rs : List Nat}, readIds fps = some rs → (fps.filterMap fun f => match f with | some f => if f.w then some f.id else none | none => none) = [] := by
  intro fps
  induction fps with
  | nil => intro rs _; rfl
  | cons a r ih =>
    intro rs h
    cases a with
    | none => simp only [readIds] at h; simp only [List.filterMap_cons]; exact ih h
    | some f =>
      simp only [readIds] at h
      split at h
      · cases h
      · rename_i hw
        split at h
        · rename_i l hl
          simp only [List.filterMap_cons, if_neg hw]; exact ih hl
        · cases h
theorem owe_see {ks : List AK} {spec : List Value → St → Option (Value × St)} {args sargs : List Value} {fps : List (Option Fp)} {rs : List Nat} {s : St} {v : Value} {len : Nat}
    (hb : bares ks args = false) (hp : picks 0 ks 0 args = some (sargs, fps)) (hr : readIds fps = some rs) (hg : gcall ks spec args s = some (v, s)) (hl : s.length = len) :
    effI (callE ks spec args s) (greads ks args) len = some (v, s, .load rs) := by
  have e : greads ks args = some rs := by unfold greads; rw [if_neg (by simp [hb]), hp]; exact hr
  simp only [callE, hg, e, effI, hl, if_true]
theorem owe_look {ks : List AK} {spec : List Value → St → Option (Value × St)} {args sargs : List Value} {fps : List (Option Fp)} {rs : List Nat} {s s' : St} {v : Value} {len : Nat}
    (hb : bares ks args = false) (hp : picks 0 ks 0 args = some (sargs, fps)) (hr : readIds fps = some rs) (hg : gcall ks spec args s = some (v, s')) (hl : s'.length ≠ len) :
    effI (callE ks spec args s) (greads ks args) len = some (v, s', .eff [] len) := by
  have e : greads ks args = some rs := by unfold greads; rw [if_neg (by simp [hb]), hp]; exact hr
  have f : gfoot ks args s = [] := by unfold gfoot gfoot0; rw [if_neg (by simp [hb]), hp]; exact readIds_foot hr
  simp only [callE, hg, e, effI, if_neg hl, f]

/-- A call that may write: what is owed. -/
theorem owe_write {ks : List AK} {spec : List Value → St → Option (Value × St)} {args sargs : List Value} {fps : List (Option Fp)} {foot : List Nat} {s s' : St} {v : Value} {len : Nat}
    (hb : bares ks args = false) (hp : picks 0 ks 0 args = some (sargs, fps)) (hr : readIds fps = none) (hf : (fps.filterMap fun f => match f with | some f => if f.w then some f.id else none | none => none) = foot) (hg : gcall ks spec args s = some (v, s')) :
    effI (callE ks spec args s) (greads ks args) len = some (v, s', .eff foot len) := by
  have e : greads ks args = none := by unfold greads; rw [if_neg (by simp [hb]), hp]; exact hr
  have f : gfoot ks args s = foot := by unfold gfoot gfoot0; rw [if_neg (by simp [hb]), hp]; exact hf
  simp only [callE, hg, e, effI, f]
/-- A call with a slice without places. -/
theorem owe_bare {ks : List AK} {spec : List Value → St → Option (Value × St)} {args sargs : List Value} {fps : List (Option Fp)} {foot : List Nat} {s s' : St} {v : Value} {len : Nat}
    (hb : bares ks args = true) (hp : picks s.length ks 0 args = some (sargs, fps)) (hf : (fps.filterMap fun f => match f with | some f => if f.w then some f.id else none | none => none) = foot) (hg : gcall ks spec args s = some (v, s')) :
    effI (callE ks spec args s) (greads ks args) len = some (v, s', .eff foot len) := by
  have e : greads ks args = none := by unfold greads; rw [if_pos hb]
  have f : gfoot ks args s = foot := by unfold gfoot gfoot0; rw [if_pos hb, hp]; exact hf
  simp only [callE, hg, e, effI, f]
theorem cut_from {i n a : Nat} (h : a ≤ n) : cut i 0 n n 1 (some (.int .i64 (a : Int))) none none = some (.slice (some ⟨i, a, none⟩) (n - a) (n - a)) := by
  unfold cut
  simp only [Option.isSome_none, Bool.false_and, Bool.false_eq_true, if_false, bound?, Nat.le_refl, if_true]
  rw [if_pos ⟨by omega, by omega⟩]
  simp
theorem cut_upto {i n a : Nat} (h : a ≤ n) : cut i 0 n n 1 none (some (.int .i64 (a : Int))) none = some (.slice (some ⟨i, 0, none⟩) a n) := by
  unfold cut
  simp only [Option.isSome_none, Bool.false_and, Bool.false_eq_true, if_false, bound?, Nat.le_refl, if_true]
  rw [if_pos ⟨by omega, by omega⟩]
  simp
theorem mul_i64 {a b c : Int} (h : a * b = c) (h1 : -9223372036854775808 ≤ c ∧ c ≤ 9223372036854775807) : aint .mul .i64 a b = some (.int .i64 c) := by
  simp [aint, h, i64_in c h1]
theorem eql_eq {k : IntKind} {a b : Int} {t : Bool} (h : (a == b) = t) : aint .eql k a b = some (.bool t) := by simp [aint, h]
theorem rem_nat {a d j : Nat} (h : a % d = j) (hd : 0 < d) : aint .rem .i64 (a : Int) (d : Int) = some (.int .i64 (j : Int)) := by
  simp only [aint]
  rw [if_neg (by omega), Int.tmod_eq_emod_of_nonneg (by omega), ← Int.natCast_emod, h]
theorem quo_nat {a d j : Nat} (h : a / d = j) (hd : 0 < d) (ha : a ≤ 2 ^ 60) : aint .quo .i64 (a : Int) (d : Int) = some (.int .i64 (j : Int)) := by
  simp only [aint]
  rw [if_neg (by omega), Int.tdiv_eq_ediv_of_nonneg (by omega), ← Int.natCast_ediv, h, i64_in _ (by have := Nat.div_le_self a d; omega)]
/-! A list, of which the first i are turned. -/
def mapTo (f : Int → Int) (l : List Int) (i : Nat) : List Int := (l.take i).map f ++ l.drop i
theorem mapTo_zero (f : Int → Int) (l : List Int) : mapTo f l 0 = l := by simp [mapTo]
theorem mapTo_all (f : Int → Int) (l : List Int) : mapTo f l l.length = l.map f := by simp [mapTo]
theorem mapTo_length (f : Int → Int) (l : List Int) (i : Nat) : (mapTo f l i).length = l.length := by simp [mapTo]; omega
theorem mapTo_get (f : Int → Int) {l : List Int} {i : Nat} (h : i < l.length) : (mapTo f l i)[i]? = some (l.getD i 0) := by
  unfold mapTo
  rw [List.getElem?_append_right (by simp; omega)]
  simp only [List.length_map, List.length_take, List.getElem?_drop, show i + (i - min i l.length) = i from by omega]
  exact getD_get h
theorem mapTo_set (f : Int → Int) {l : List Int} {i : Nat} (h : i < l.length) : (mapTo f l i).set i (f (l.getD i 0)) = mapTo f l (i + 1) := by
  apply List.ext_getElem?
  intro j
  have hx : l[i]? = some (l.getD i 0) := getD_get h
  rw [List.getElem?_set]
  unfold mapTo
  by_cases hj : i = j
  · subst hj
    rw [if_pos rfl, if_pos (by simp; omega), List.getElem?_append_left (by simp; omega)]
    simp only [List.getElem?_map, List.getElem?_take, if_pos (Nat.lt_succ_self i), hx, Option.map_some]
  · rw [if_neg hj, List.getElem?_append, List.getElem?_append]
    simp only [List.length_map, List.length_take]
    by_cases h1 : j < i
    · rw [if_pos (by omega), if_pos (by omega)]; simp [List.getElem?_take, h1, show j < i + 1 by omega]
    · rw [if_neg (by omega), if_neg (by omega)]; simp only [List.getElem?_drop]; congr 1; omega
end Go.Proofs.Ytggkdjhgknghcaa.Run
namespace Go.Proofs.Ytggkdjhgknghcaa.Byt
open Am Run IntWalk
/-- EqBytes of bytes, wherever they stand. -/
theorem call_eq {st : St} {x y : Value} {i j o p : Nat} {a b : List Int} (hx : Bys st x i o a) (hy : Bys st y j p b) (ha : a.length ≤ 2 ^ 60) : gcall eqBytesE.ks eqBytesE.spec [x, y] st = some (.bool (decide (a = b)), st) := by
  refine gcall_see (sargs := [slR 0 a.length, slR 1 b.length]) (fps := [some ⟨i, o, a.length, false⟩, some ⟨j, p, b.length, false⟩]) (sst := sE a b) ?_ ?_ ?_ (by simp [disjFps, disj1]) ?_ (by simp) rfl
  · simp only [eqBytesE, bares, hx.bare, hy.bare, Bool.or_false]
  · simp only [eqBytesE, picks, hx.pick, hy.pick]
  · exact hx.small (hy.small smalls_nil)
  · simp only [eqBytesE, eqSpec, slR, sE, byR, u8s_map]
    rw [if_pos (by simpa using ha)]
/-- CopyBytes of bytes, wherever they stand. -/
theorem call_copy {st : St} {x : Value} {i o : Nat} {a : List Int} (hx : Bys st x i o a) (ha : a.length ≤ 140737488355328) : gcall copyBytesE.ks copyBytesE.spec [x] st = some (rowR st.length a.length, st ++ [byR a (.row 1)]) := by
  refine gcall_look (sargs := [slR 0 a.length]) (fps := [some ⟨i, o, a.length, false⟩]) (sst := [byR a .ro]) (news := [byR a (.row 1)]) (res := rowR 1 a.length) ?_ ?_ ?_ (by simp [disjFps]) ?_ (by simp) (mapO_plainReg ?_) ?_
  · simp only [copyBytesE, bares, hx.bare, Bool.or_false]
  · simp only [copyBytesE, picks, hx.pick]
  · exact hx.small smalls_nil
  · simp only [copyBytesE, copySpec, slR, byR, u8s_map]
    rw [if_pos (by simpa using ha)]
    rfl
  · simp only [List.all_cons, List.all_nil, byR, plain_u8, plainReg, Bool.and_true, Bool.and_self]
  · rfl
theorem owe_eq {s : St} {x y : Value} {i j o p : Nat} {a b : List Int} {len : Nat} (hx : Bys s x i o a) (hy : Bys s y j p b) (ha : a.length ≤ 2 ^ 60) (hl : s.length = len) :
    effI (callE eqBytesE.ks eqBytesE.spec [x, y] s) (greads eqBytesE.ks [x, y]) len = some (.bool (decide (a = b)), s, .load [i, j]) := by
  refine owe_see (sargs := [slR 0 a.length, slR 1 b.length]) (fps := [some ⟨i, o, a.length, false⟩, some ⟨j, p, b.length, false⟩]) ?_ ?_ rfl (call_eq hx hy ha) hl
  · simp only [eqBytesE, bares, hx.bare, hy.bare, Bool.or_false]
  · simp only [eqBytesE, picks, hx.pick, hy.pick]
theorem owe_copy {s : St} {x : Value} {i o : Nat} {a : List Int} {len : Nat} (hx : Bys s x i o a) (ha : a.length ≤ 140737488355328) (hl : s.length = len) :
    effI (callE copyBytesE.ks copyBytesE.spec [x] s) (greads copyBytesE.ks [x]) len = some (rowR len a.length, s ++ [byR a (.row 1)], .eff [] len) := by
  subst hl
  refine owe_look (sargs := [slR 0 a.length]) (fps := [some ⟨i, o, a.length, false⟩]) ?_ ?_ rfl (call_copy hx ha) (by simp)
  · simp only [copyBytesE, bares, hx.bare, Bool.or_false]
  · simp only [copyBytesE, picks, hx.pick]
/-! Bring, by what it comes to -/
theorem mod_of_tmod {i n : Int} (h : 0 < n) : i % n = if i.tmod n < 0 then i.tmod n + n else i.tmod n := by
  have e : i.tmod n + n * i.tdiv n = i := Int.tmod_add_mul_tdiv i n
  have e2 : i % n = i.tmod n % n := by
    have := Int.add_mul_emod_self_left (i.tmod n) n (i.tdiv n)
    rw [e] at this
    exact this
  have h1 : i.tmod n < n := Int.tmod_lt_of_pos i h
  have h2 : -n < i.tmod n := by
    have := Int.tmod_lt_of_pos (-i) h
    rw [Int.neg_tmod] at this
    omega
  rw [e2]
  split
  · have := Int.add_mul_emod_self_left (i.tmod n) n 1
    rw [Int.mul_one] at this
    rw [← this, Int.emod_eq_of_lt (by omega) (by omega)]
  · exact Int.emod_eq_of_lt (by omega) h1
def hBr (t m : Int) (neg : Bool) : Hint := ⟨fun r k => match r, k with
  | 1, 1 => some (.pure (.bool false))
  | 3, 2 => some (.pure (.int .i64 t))
  | 4, 1 => some (.pure (.bool neg))
  | 5, 2 => some (.pure (.int .i64 m))
  | _, _ => none, fun _ => none⟩
theorem brR1 (i n t m : Int) : goNH [] (hBr t m true) 0 Try.f19 [.int .i64 i, .int .i64 n] [none, none] = some (.int .i64 m, [none, none]) := by kernel_rfl
theorem brP1 (i n t m : Int) : owes [] (hBr t m true) 0 Try.f19 [.int .i64 i, .int .i64 n] [none, none] =
    (aint .leq .i64 n 0 = some (.bool false) ∧ aint .rem .i64 i n = some (.int .i64 t) ∧ aint .lss .i64 t 0 = some (.bool true) ∧ aint .add .i64 t n = some (.int .i64 m) ∧ True) := by kernel_rfl
theorem brR0 (i n t m : Int) : goNH [] (hBr t m false) 0 Try.f19 [.int .i64 i, .int .i64 n] [none, none] = some (.int .i64 t, [none, none]) := by kernel_rfl
theorem brP0 (i n t m : Int) : owes [] (hBr t m false) 0 Try.f19 [.int .i64 i, .int .i64 n] [none, none] =
    (aint .leq .i64 n 0 = some (.bool false) ∧ aint .rem .i64 i n = some (.int .i64 t) ∧ aint .lss .i64 t 0 = some (.bool false) ∧ True) := by kernel_rfl
def brSpec (args : List Value) (st : St) : Option (Value × St) :=
  match args, st with
  | [.int .i64 i, .int .i64 n], [none, none] => if 0 < n ∧ n ≤ 2 ^ 60 then some (.int .i64 (i % n), [none, none]) else none
  | _, _ => none
noncomputable def brE : Entry := ⟨19, [.val, .val], brSpec⟩
theorem brE_ok : EntryOk Try.prog brE := by
  refine ⟨fun a s r s' h => ?_, body_of Try.func19 (by kernel_rfl) (by kernel_rfl)⟩
  simp only [brE] at h
  unfold brSpec at h
  split at h
  · rename_i i n
    split at h
    · rename_i hc
      cases h
      have e := mod_of_tmod (i := i) hc.1
      have h1 := Int.tmod_lt_of_pos i hc.1
      have h2 : 0 ≤ i % n := Int.emod_nonneg i (by omega)
      have h3 : i % n < n := Int.emod_lt_of_pos i hc.1
      have hn : aint .leq .i64 n 0 = some (.bool false) := by simp [aint]; omega
      have hr : aint .rem .i64 i n = some (.int .i64 (i.tmod n)) := by simp only [aint]; rw [if_neg (by omega)]
      by_cases ht : i.tmod n < 0
      · rw [if_pos ht] at e
        refine runNH_ok es0 Try.func19 (by kernel_rfl) ?_ (brR1 i n (i.tmod n) (i % n)) rfl rfl rfl
        rw [brP1]
        exact ⟨hn, hr, lss_eq (by simpa using ht), add_i64 e.symm (by omega), trivial⟩
      · rw [if_neg ht] at e
        rw [e]
        refine runNH_ok es0 Try.func19 (by kernel_rfl) ?_ (brR0 i n (i.tmod n) 0) rfl rfl rfl
        rw [brP0]
        exact ⟨hn, hr, lss_eq (by simp; omega), trivial⟩
    · cases h
  · cases h
theorem owe_bring {s : St} {i n : Int} {len : Nat} (hn : 0 < n ∧ n ≤ 2 ^ 60) (hl : s.length = len) : effI (callE brE.ks brE.spec [.int .i64 i, .int .i64 n] s) (greads brE.ks [.int .i64 i, .int .i64 n]) len = some (.int .i64 (i % n), s, .load []) := by
  refine owe_see (sargs := [.int .i64 i, .int .i64 n]) (fps := [none, none]) rfl rfl rfl (gcall_see (sargs := [.int .i64 i, .int .i64 n]) (fps := [none, none]) (sst := [none, none]) rfl rfl rfl rfl ?_ (by simp) rfl) hl
  simp only [brE, brSpec]
  rw [if_pos hn]
theorem eq_self {b : List Int} {s : St} {x y : Value} {i j o p len : Nat} (hx : Bys s x i o b) (hy : Bys s y j p b) (hb : b.length ≤ 2 ^ 60) (hl : s.length = len) :
    effI (callE eqBytesE.ks eqBytesE.spec [x, y] s) (greads eqBytesE.ks [x, y]) len = some (.bool true, s, .load [i, j]) := by
  rw [owe_eq hx hy hb hl, decide_eq_true rfl]
end Go.Proofs.Ytggkdjhgknghcaa.Byt
