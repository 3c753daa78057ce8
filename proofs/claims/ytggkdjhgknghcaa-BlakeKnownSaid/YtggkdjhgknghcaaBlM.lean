/- The law BlakeKnown: the machine's run of it. Without conditions. -/
import Derived.Test.YtggkdjhgknghcaaBlL3
import Derived.Test.YtggkdjhgknghcaaKeep
import Derived.Test.YtggkdjhgknghcaaTab
import Derived.Test.YtggkdjhgknghcaaVw
namespace Go.Proofs.Ytggkdjhgknghcaa.Run
open Am
/-- A region whose operation q appends to a row that is still looked at behind it, run, and seen under new numbers (region j is a row: all behind it is new). -/
noncomputable def keepV (es : List Entry) (ops : Array Oper) (q jv : Nat) (ids adr live : List Nat) (t : List Value) (s : St) : Option (List Value × St) :=
  match aops T (orc es) ops.toList (ops.toList.take q) t s, ops[q]? with
  | some (_, t1, s1), some o => match o.op, o.guard with
    | .call ⟨.builtin .append, ⟨[xs, ys]⟩, ⟨[sT, xT]⟩⟩, none => match aeval t1 xs, aeval t1 ys, T.und sT, T.und xT with
      | some (.slice (some ⟨j, 0, some 1⟩) len _), some x, some (.slice e), some (.slice _) => match T.sz e, T.byt e, T.zero e with
        | some size, some bytes, some z => match source s1 size x, s1[j]? with
          | some (k, new), some (some rg) => if len ≠ 0 ∧ size ≠ 0 ∧ bytes ≠ 0 ∧ z.cells.size = size ∧ new.all oneC = true ∧ rg.kind = .row size ∧ rg.cells.length = len * size ∧ (len + k) * bytes ≤ 140737488355328 then
              match aops T (orc es) ops.toList (ops.toList.drop (q + 1)) (aput o.dst (.slice (some ⟨s1.length, 0, none⟩) (len + k) (len + k)) t1) (s1.set j (some ⟨rg.cells, .ro⟩) ++ [some ⟨rg.cells ++ new, .ro⟩]) with
              | some (_, t3, s3) => if rowAt s jv && (fixOk 0 (s.take jv) ids && nodupB ids) then match viewSlots (sigInv ids s3.length) live 0 t3, viewSt (sigInv ids s3.length) adr s3 0 ids with
                | some t4, some s4 => some (t4, s4)
                | _, _ => none else none
              | none => none
            else none
          | _, _ => none
        | _, _, _ => none
      | _, _, _, _ => none
    | _, _ => none
  | _, _ => none
theorem keepV_ok {es : List Entry} (hes : ∀ e ∈ es, EntryOk Try.prog e) {c : Code} {id q jv : Nat} {ops : Array Oper} (hc : c = .region id ops false) {ids adr live : List Nat} {t t4 : List Value} {s s4 : St} (h : keepV es ops q jv ids adr live t s = some (t4, s4)) (hpl : plainBut adr 0 s4 = true) : RunsP c t s .normal t4 s4 := by
  subst hc
  unfold keepV at h
  split at h
  · rename_i is1 t1 s1 o h1 ho
    split at h
    · rename_i xs ys sT xT hop hg
      split at h
      · rename_i j len cc x e dd e3 e4 hu hux
        split at h
        · rename_i size bytes z hsz hby hz
          split at h
          · rename_i k new rg hsrc hrg
            split at h
            · rename_i hcnd
              obtain ⟨a1, a2, a3, a4, a5, a6, a7, a8⟩ := hcnd
              split at h
              · rename_i is3 t3 s3 h3
                split at h
                · rename_i hv
                  simp only [Bool.and_eq_true] at hv
                  split at h
                  · rename_i t5 s5 g1 g2
                    cases h
                    exact view2 (keep_runs hT (orc_ok hes) h1 ho hop hg e3 e4 a1 hu hux (fun kk => by simp) hsz hby hz hsrc a2 a3 a4 a5 hrg a6 a7 a8 h3) hv.1 hv.2.1 hv.2.2 g1 g2 hpl
                  · cases h
                · cases h
              · cases h
            · cases h
          · cases h
        · cases h
      · cases h
    · cases h
  · cases h
end Go.Proofs.Ytggkdjhgknghcaa.Run
namespace Go.Proofs.Ytggkdjhgknghcaa.Bl
open Am Run IntWalk Byt

noncomputable def kwEs : List Entry := [bsumE, ofE, newE, hexE, split2E, writeE, hsumE, worksE]
theorem kwEs_ok : ∀ e ∈ kwEs, EntryOk Try.prog e := esc bsumE_ok (esc ofE_ok (esc newE_ok (esc hexE_ok (esc split2E_ok (esc writeE_ok (esc hsumE_ok (es1 worksE_ok)))))))
def nilR : Option Reg := some ⟨[], .rw⟩
def key32 : List Int := (List.range 32).map fun i => ((i : Nat) : Int)
def nv : Value := .slice none 0 0
/-! the key -/
noncomputable def cKey : Code := loopOf 3 (body Try.f9)
theorem keyRun : stepV kwEs noHint 33 (.loop cKey) [63] [] [1] (slots 146 [(1, nv), (2, .int .i64 0)]) [] = some (.exit 0, slots 146 [(1, rowR 0 32)], [byR key32 (.row 1)]) := by kernel_rfl
theorem keyRuns : RunsP (.loop cKey) (slots 146 [(1, nv), (2, .int .i64 0)]) [] (.exit 0) (slots 146 [(1, rowR 0 32)]) [byR key32 (.row 1)] := step0_ok kwEs_ok keyRun rfl
/-! a key too long -/
noncomputable def cTen : Code := regOf 10 (body Try.f9)
noncomputable def opsTen : Array Oper := opsOf cTen
theorem cTen_eq : cTen = .region 10 opsTen false := by kernel_rfl
def sA (d0 : V8) (ek : List Int) : St := [byR key32 (.row 1), nilR, byR (out8 d0) .rw, nilR, byR ek .rw, nilR, nilR]
def sB10 (d0 : V8) (ek : List Int) : St := [byR key32 .ro, byR (out8 d0) .rw, byR ek .rw]
def tA10 : List Value := slots 146 [(1, rowR 0 32), (3, pR 2), (4, sl0 4 32), (5, .int .i64 0), (7, .int .i64 2), (9, .int .i64 2)]
def tB10 : List Value := slots 146 [(1, rowR 0 32), (3, pR 1), (4, sl0 2 32), (5, .int .i64 0), (7, .int .i64 2), (9, .int .i64 2), (11, .int .i64 2)]
theorem tenV (d0 : V8) (ek : List Int) : keepV kwEs opsTen 2 0 [0, 2, 4] [] [1, 3, 4, 5, 7, 9, 11] tA10 (sA d0 ek) = some (tB10, sB10 d0 ek) := by kernel_rfl
theorem plB10 (d0 : V8) (ek : List Int) : plainBut [] 0 (sB10 d0 ek) = true := by
  simp only [sB10, plainBut, byR, plainReg_u8, Bool.or_true, Bool.and_true]
theorem tenRuns (d0 : V8) (ek : List Int) : RunsP cTen tA10 (sA d0 ek) .normal tB10 (sB10 d0 ek) := keepV_ok kwEs_ok cTen_eq (tenV d0 ek) (plB10 d0 ek)

/-! lengths around blocks -/
noncomputable def cOut : Code := loopOf 15 (body Try.f9)
noncomputable def cFill : Code := loopOf 19 (body Try.f9)
noncomputable def cAt : Code := loopOf 23 (body Try.f9)
def z33 : List Int := List.replicate 33 0
def sOu (d0 : V8) (ek : List Int) : St := sB10 d0 ek ++ [nilR, byR z33 (.row 1)]
def sFi (d0 : V8) (ek l : List Int) : St := sOu d0 ek ++ [byR l (.row 1)]
def sl3 (n : Nat) : List (Nat × Value) := [(1, rowR 0 32), (16, .bool true), (17, .int .i64 (n : Int))]
def b8 (i : Nat) : Int := IntKind.u8.wrap (i : Int)
def fl (n i : Nat) : List Int := (List.range i).map b8 ++ List.replicate (n - i) 0
theorem fl_length {n i : Nat} (h : i ≤ n) : (fl n i).length = n := by simp [fl]; omega
theorem fl_zero (n : Nat) : fl n 0 = List.replicate n 0 := by simp [fl]
theorem fl_set {n i : Nat} (h : i < n) : (fl n i).set i (b8 i) = fl n (i + 1) := by
  unfold fl
  rw [List.set_append_right _ _ (by simp), show n - i = (n - (i + 1)) + 1 from by omega, List.replicate_succ]
  simp [List.range_succ]
def tFi (n : Nat) (i : Int) : List Value := slots 146 (sl3 n ++ [(18, rowR 5 n), (19, .int .i64 i)])
def tFe (n : Nat) : List Value := slots 146 (sl3 n ++ [(18, rowR 5 n)])
def hFi (i : Nat) (i1 : Int) (l' : List Int) : Hint := ⟨fun r k => match r, k with
  | 19, 2 => some (.pure (.bool true))
  | 21, 4 => some (.pure (.pointer (some ⟨5, i, none⟩)))
  | 21, 5 => some (.eff undef (fun s => s.set 5 (byR l' (.row 1))) [5])
  | 20, 1 => some (.pure (.int .i64 i1))
  | _, _ => none, fun _ => none⟩
def hFe : Hint := ⟨fun r k => match r, k with
  | 19, 2 => some (.pure (.bool false))
  | _, _ => none, fun _ => none⟩
theorem stepFi (d0 : V8) (ek l l' : List Int) (n i : Nat) (i1 : Int) : stepV kwEs (hFi i i1 l') 0 cFill (List.range 6) [] [1, 16, 17, 18, 19] (tFi n (i : Int)) (sFi d0 ek l) = some (.normal, tFi n i1, sFi d0 ek l') := by kernel_rfl
theorem stepFiP (d0 : V8) (ek l l' : List Int) (n i : Nat) (i1 : Int) : stepP kwEs (hFi i i1 l') 0 cFill (tFi n (i : Int)) (sFi d0 ek l) =
    (aint .lss .i64 (i : Int) (n : Int) = some (.bool true) ∧ idxAt 5 0 1 n (i : Int) = some (.pointer (some ⟨5, i, none⟩)) ∧
     ((none : Option Value) = none ∧ effI (storeCore (sFi d0 ek l) 5 i [.int .u8 (b8 i)]) none 6 = some (undef, sFi d0 ek l', .eff [5] 6)) ∧ aint .add .i64 (i : Int) 1 = some (.int .i64 i1) ∧ True) := by kernel_rfl
theorem stopFi (d0 : V8) (ek l : List Int) (n : Nat) (i : Int) : stepV kwEs hFe 0 cFill (List.range 6) [] [1, 16, 17, 18] (tFi n i) (sFi d0 ek l) = some (.exit 4, tFe n, sFi d0 ek l) := by kernel_rfl
theorem stopFiP (d0 : V8) (ek l : List Int) (n : Nat) (i : Int) : stepP kwEs hFe 0 cFill (tFi n i) (sFi d0 ek l) = (aint .lss .i64 i (n : Int) = some (.bool false) ∧ True) := by kernel_rfl
theorem plFi (d0 : V8) (ek l : List Int) : plainBut [] 0 (sFi d0 ek l) = true := by
  have h1 : plainReg nilR = true := rfl
  simp only [sFi, sOu, sB10, List.cons_append, List.nil_append, plainBut, byR, plainReg_u8, h1, Bool.or_true, Bool.and_true]
theorem plOu (d0 : V8) (ek : List Int) : plainBut [] 0 (sOu d0 ek) = true := by
  have h1 : plainReg nilR = true := rfl
  simp only [sOu, sB10, List.cons_append, List.nil_append, plainBut, byR, plainReg_u8, h1, Bool.or_true, Bool.and_true]
theorem loopFi (d0 : V8) (ek : List Int) {n : Nat} (hn : n ≤ 2 ^ 40) : RunsP (.loop cFill) (tFi n 0) (sFi d0 ek (List.replicate n 0)) (.exit 4) (tFe n) (sFi d0 ek (fl n n)) := by
  have h := Runs.count n (fun i => tFi n (i : Int)) (fun i => sFi d0 ek (fl n i)) (e := .exit 4) (te := tFe n) (se := sFi d0 ek (fl n n)) (fun i hi => by
    refine step_ok kwEs_ok ?_ (stepFi d0 ek _ (fl n (i + 1)) n i ((i + 1 : Nat) : Int)) (plFi _ _ _)
    rw [stepFiP]
    refine ⟨lss_eq (by simp; omega), idx_ok0 hi, ⟨rfl, ?_⟩, add_i64 (by omega) (by omega), trivial⟩
    rw [store_u8 (l := fl n i) (kd := .row 1) rfl (by rw [fl_length (by omega)]; omega) (by simp), fl_set hi]
    rfl) (by
    refine step_ok kwEs_ok ?_ (stopFi d0 ek _ n (n : Int)) (plFi _ _ _)
    rw [stopFiP]
    exact ⟨lss_eq (by simp), trivial⟩) (by simp)
  rw [fl_zero] at h
  exact h
def tAt (n : Nat) (a : Int) : List Value := slots 146 (sl3 n ++ [(18, rowR 5 n), (20, .int .i64 a)])
def hAt (a1 : Int) : Hint := ⟨fun r k => match r, k with
  | 23, 2 => some (.pure (.bool true))
  | 25, 2 => some (.eff (.bool true) (fun s => s ++ [nilR]) [])
  | 25, 9 => some (.read (.bool true) [0, 5])
  | 24, 1 => some (.pure (.int .i64 a1))
  | _, _ => none, fun _ => none⟩
def hAe : Hint := ⟨fun r k => match r, k with
  | 23, 2 => some (.pure (.bool false))
  | _, _ => none, fun _ => none⟩
def spA (size : Int) (x : Value) (n : Nat) (a : Int) : List Value := [.int .i64 size, x, rowR 5 n, .int .i64 a]
theorem stepAt (d0 : V8) (ek l : List Int) (n : Nat) (a a1 : Int) : stepV kwEs (hAt a1) 0 cAt (List.range 6) [] [1, 16, 17, 18, 20] (tAt n a) (sFi d0 ek l) = some (.normal, tAt n a1, sFi d0 ek l) := by kernel_rfl
theorem stepAtP (d0 : V8) (ek l : List Int) (n : Nat) (a a1 : Int) : stepP kwEs (hAt a1) 0 cAt (tAt n a) (sFi d0 ek l) =
    (aint .leq .i64 a (n : Int) = some (.bool true) ∧
     ((none : Option Value) = none ∧ effI (callE split2E.ks split2E.spec (spA 32 nv n a) (sFi d0 ek l)) (greads split2E.ks (spA 32 nv n a)) 6 = some (.bool true, sFi d0 ek l ++ [nilR], .eff [] 6)) ∧
     ((none : Option Value) = none ∧ effI (callE split2E.ks split2E.spec (spA 7 (.slice (some ⟨0, 0, none⟩) 5 32) n a) (sFi d0 ek l ++ [nilR])) (greads split2E.ks (spA 7 (.slice (some ⟨0, 0, none⟩) 5 32) n a)) 7 = some (.bool true, sFi d0 ek l ++ [nilR], .load [0, 5])) ∧
     aint .add .i64 a 31 = some (.int .i64 a1) ∧ True) := by kernel_rfl
theorem stopAt (d0 : V8) (ek l : List Int) (n : Nat) (a : Int) : stepV kwEs hAe 0 cAt (List.range 6) [] [1, 16, 17] (tAt n a) (sFi d0 ek l) = some (.exit 6, slots 146 (sl3 n), sFi d0 ek l) := by kernel_rfl
theorem stopAtP (d0 : V8) (ek l : List Int) (n : Nat) (a : Int) : stepP kwEs hAe 0 cAt (tAt n a) (sFi d0 ek l) = (aint .leq .i64 a (n : Int) = some (.bool false) ∧ True) := by kernel_rfl
theorem owe_split2Nil {st : St} {y : Value} {j p len : Nat} {size at_ : Int} {b : List Int} (hy : Bys st y j p b) (hb : b.length ≤ 140737488351232) (hl : st.length = len) :
    effI (callE split2E.ks split2E.spec [.int .i64 size, .slice none 0 0, y, .int .i64 at_] st) (greads split2E.ks [.int .i64 size, .slice none 0 0, y, .int .i64 at_]) len = some (.bool true, st ++ [nilR], .eff [] len) := by
  subst hl
  obtain ⟨a, c, cs, kd, rfl, hbs, hc, hst, hn, hcut⟩ := hy.ex
  have hbr : bares split2E.ks [.int .i64 size, .slice none 0 0, .slice a b.length c, .int .i64 at_] = true := rfl
  have hy' : Bys (st ++ [some ⟨[], .rw⟩]) (.slice a b.length c) j p b := ⟨a, c, cs, kd, rfl, hbs, hc, by rw [List.getElem?_append_left (List.getElem?_eq_some_iff.1 hst).1]; exact hst, hn, hcut⟩
  have hx' : Bys (st ++ [some ⟨[], .rw⟩]) (slR st.length 0) st.length 0 [] := Bys.all (l := []) (kd := .rw) (by simp [byR])
  have hpk : picks st.length split2E.ks 0 [.int .i64 size, .slice none 0 0, .slice a b.length c, .int .i64 at_] = some (aSp size 0 b.length at_, [none, some ⟨st.length, 0, 0, false⟩, some ⟨j, p, b.length, false⟩, none]) := by simp only [split2E, picks, hy.pick]; rfl
  refine owe_bare hbr hpk rfl ?_
  rw [gcall_bare hbr]
  have := gcall0_look (e := st.length) (ks := split2E.ks) (spec := split2E.spec) (st := st ++ [some ⟨[], .rw⟩]) (sst := sSp [] b) (news := []) (news' := []) (res := .bool true) (res' := .bool true)
    hpk (smalls_none (hx'.small (hy'.small (smalls_none smalls_nil)))) (by simp [disjFps, disj1]) (by
      simp only [split2E, split2Spec, aSp, slR, sSp, byR, u8s_map]
      rw [if_pos ⟨rfl, rfl, trivial, trivial, hb⟩]
      rfl) (by simp) rfl rfl
  simpa [nilR] using this
theorem loopAt (d0 : V8) (ek l : List Int) {n : Nat} (hl : l.length = n) (hn : n ≤ 2 ^ 40) : RunsP (.loop cAt) (tAt n 0) (sFi d0 ek l) (.exit 6) (slots 146 (sl3 n)) (sFi d0 ek l) := by
  have hkey : (key32.drop 0).take 5 = (key32.drop 0).take 5 := rfl
  refine Runs.count (n / 31 + 1) (fun i => tAt n ((31 * i : Nat) : Int)) (fun _ => sFi d0 ek l) (fun i hi => ?_) ?_ (by simp)
  · refine step_ok kwEs_ok ?_ (stepAt d0 ek l n ((31 * i : Nat) : Int) ((31 * (i + 1) : Nat) : Int)) (plFi _ _ _)
    rw [stepAtP]
    refine ⟨leq_eq (by simp; omega), ⟨rfl, owe_split2Nil (row_bytes (i := 5) (kd := .row 1) (l := l) rfl hl) (by omega) rfl⟩, ⟨rfl, ?_⟩, add_i64 (by omega) (by omega), trivial⟩
    exact owe_split2 (st := sFi d0 ek l ++ [nilR]) (len := 7) (Bys.part (i := 0) (off := 0) (n := 5) (c := 32) (cs := key32) (kd := .ro) rfl (by decide) (by decide)) (row_bytes (i := 5) (kd := .row 1) (l := l) rfl hl) (by omega) rfl
  · refine step_ok kwEs_ok ?_ (stopAt d0 ek l n ((31 * (n / 31 + 1) : Nat) : Int)) (plFi _ _ _)
    rw [stopAtP]
    exact ⟨leq_eq (by simp; omega), trivial⟩
def tOu (n : Nat) : List Value := slots 146 (sl3 n)
def hOu (d0 : V8) (ek : List Int) (n : Nat) (n1 : Int) : Hint := ⟨fun r k => match r, k with
  | 15, 1 => some (.pure (.bool true))
  | 17, 1 => some (.eff (rowR 5 n) (fun s => s ++ [byR (List.replicate n 0) (.row 1)]) [])
  | 16, 1 => some (.pure (.int .i64 n1))
  | _, _ => none, fun r => if r = 19 then some ([1, 16, 17, 18, 19], fun _ _ => some (.exit 4, tFe n, sFi d0 ek (fl n n))) else if r = 23 then some ([1, 16, 17, 18, 20], fun _ _ => some (.exit 6, slots 146 (sl3 n), sFi d0 ek (fl n n))) else none⟩
def hOe : Hint := ⟨fun r k => match r, k with
  | 15, 1 => some (.pure (.bool false))
  | _, _ => none, fun _ => none⟩
def tOx (n1 : Int) : List Value := slots 146 [(1, rowR 0 32), (16, .bool true), (17, .int .i64 n1)]
theorem stepOu (d0 : V8) (ek : List Int) (n : Nat) (n1 : Int) : stepV kwEs (hOu d0 ek n n1) 0 cOut (List.range 5) [] [1, 16, 17] (tOu n) (sOu d0 ek) = some (.normal, tOx n1, sOu d0 ek) := by kernel_rfl
theorem stepOuP (d0 : V8) (ek : List Int) (n : Nat) (n1 : Int) : stepP kwEs (hOu d0 ek n n1) 0 cOut (tOu n) (sOu d0 ek) =
    (aint .lss .i64 (n : Int) 196 = some (.bool true) ∧ ((none : Option Value) = none ∧ effI (makeCore (sOu d0 ek) 1 (.int .u8 0) (n : Int) (n : Int)) none 5 = some (rowR 5 n, sFi d0 ek (List.replicate n 0), .eff [] 5)) ∧
     RunsP (.loop cFill) (tFi n 0) (sFi d0 ek (List.replicate n 0)) (.exit 4) (tFe n) (sFi d0 ek (fl n n)) ∧ RunsP (.loop cAt) (tAt n 0) (sFi d0 ek (fl n n)) (.exit 6) (slots 146 (sl3 n)) (sFi d0 ek (fl n n)) ∧
     aint .add .i64 (n : Int) 1 = some (.int .i64 n1) ∧ True) := by kernel_rfl
theorem stopOu (d0 : V8) (ek : List Int) (n : Nat) : stepV kwEs hOe 0 cOut (List.range 5) [] [16] (tOu n) (sOu d0 ek) = some (.exit 2, slots 146 [(16, .bool true)], sOu d0 ek) := by kernel_rfl
theorem stopOuP (d0 : V8) (ek : List Int) (n : Nat) : stepP kwEs hOe 0 cOut (tOu n) (sOu d0 ek) = (aint .lss .i64 (n : Int) 196 = some (.bool false) ∧ True) := by kernel_rfl
theorem loopOu (d0 : V8) (ek : List Int) : RunsP (.loop cOut) (tOu 62) (sOu d0 ek) (.exit 2) (slots 146 [(16, .bool true)]) (sOu d0 ek) := by
  refine Runs.count 134 (fun i => tOu (62 + i)) (fun _ => sOu d0 ek) (fun i hi => ?_) ?_ (by simp)
  · refine step_ok kwEs_ok ?_ (stepOu d0 ek (62 + i) ((62 + (i + 1) : Nat) : Int)) (plOu _ _)
    rw [stepOuP]
    refine ⟨lss_eq (by simp; omega), ⟨rfl, ?_⟩, loopFi d0 ek (by omega), loopAt d0 ek _ (fl_length (Nat.le_refl _)) (by omega), add_i64 (by omega) (by omega), trivial⟩
    rw [make_u8 (by omega)]
    rfl
  · refine step_ok kwEs_ok ?_ (stopOu d0 ek (62 + 134)) (plOu _ _)
    rw [stopOuP]
    exact ⟨lss_eq (by decide), trivial⟩
/-! all of it -/
def S0 : ByteArray := ⟨#[54, 57, 50, 49, 55, 97, 51, 48, 55, 57, 57, 48, 56, 48, 57, 52, 101, 49, 49, 49, 50, 49, 100, 48, 52, 50, 51, 53, 52, 97, 55, 99, 49, 102, 53, 53, 98, 54, 52, 56, 50, 99, 97, 49, 97, 53, 49, 101, 49, 98, 50, 53, 48, 100, 102, 100, 49, 101, 100, 48, 101, 101, 102, 57]⟩
def S1 : ByteArray := ⟨#[52, 56, 97, 56, 57, 57, 55, 100, 97, 52, 48, 55, 56, 55, 54, 98, 51, 100, 55, 57, 99, 48, 100, 57, 50, 51, 50, 53, 97, 100, 51, 98, 56, 57, 99, 98, 98, 55, 53, 52, 100, 56, 54, 97, 98, 55, 49, 97, 101, 101, 48, 52, 55, 97, 100, 51, 52, 53, 102, 100, 50, 99, 52, 57]⟩
def ag8 (g : V8) : Value := .agg ⟨(out8 g).map (.int .u8)⟩
def hKw (d0 : V8) (ek : List Int) : Hint := ⟨fun r k => match r, k with
  | 6, 0 => some (.eff (ag8 d0) (fun s => s ++ [nilR]) [])
  | 7, 1 => some (.eff (.tuple #[sl0 4 32, .int .i64 0]) (fun s => s ++ [nilR] ++ [byR ek .rw]) [])
  | 13, 24 => some (.read (.string S0) [1])
  | 13, 29 => some (.read (.string S1) [2])
  | _, _ => none, fun r => if r = 3 then some ([1, 2], fun _ _ => some (.exit 0, slots 146 [(1, rowR 0 32)], [byR key32 (.row 1)])) else if r = 1000010 then some ([1, 3, 4, 5, 7, 9], fun _ _ => some (.normal, tB10, sB10 d0 ek))
    else if r = 15 then some ([1, 16, 17], fun _ _ => some (.exit 2, slots 146 [(16, .bool true)], sOu d0 ek)) else none⟩
theorem kwR (d0 : V8) (ek : List Int) : goNH kwEs (hKw d0 ek) 3 Try.f9 [] [] = some (.bool true, []) := by kernel_rfl
def sK6 : St := [byR key32 (.row 1)]
def sK7 (d0 : V8) : St := [byR key32 (.row 1), nilR, byR (out8 d0) .rw]
theorem kwP (d0 : V8) (ek : List Int) : owes kwEs (hKw d0 ek) 3 Try.f9 [] [] =
    (RunsP (.loop cKey) (slots 146 [(1, nv), (2, .int .i64 0)]) [] (.exit 0) (slots 146 [(1, rowR 0 32)]) [byR key32 (.row 1)] ∧
     ((none : Option Value) = none ∧ effI (callE bsumE.ks bsumE.spec [nv] sK6) (greads bsumE.ks [nv]) 1 = some (ag8 d0, sK6 ++ [nilR], .eff [] 1)) ∧
     ((none : Option Value) = none ∧ effI (callE ofE.ks ofE.spec [.int .i64 32, rowR 0 32, nv] (sK7 d0)) (greads ofE.ks [.int .i64 32, rowR 0 32, nv]) 3 = some (.tuple #[sl0 4 32, .int .i64 0], sK7 d0 ++ [nilR] ++ [byR ek .rw], .eff [] 3)) ∧
     RunsP cTen tA10 (sA d0 ek) .normal tB10 (sB10 d0 ek) ∧
     ((none : Option Value) = none ∧ effI (callE hexE.ks hexE.spec [slR 1 32] (sOu d0 ek)) (greads hexE.ks [slR 1 32]) 5 = some (.string S0, sOu d0 ek, .load [1])) ∧
     ((none : Option Value) = none ∧ effI (callE hexE.ks hexE.spec [sl0 2 32] (sOu d0 ek)) (greads hexE.ks [sl0 2 32]) 5 = some (.string S1, sOu d0 ek, .load [2])) ∧
     RunsP (.loop cOut) (tOu 62) (sOu d0 ek) (.exit 2) (slots 146 [(16, .bool true)]) (sOu d0 ek) ∧ True) := by kernel_rfl
theorem owe_bsumNil {st : St} {len : Nat} (hl : st.length = len) : effI (callE bsumE.ks bsumE.spec [nv] st) (greads bsumE.ks [nv]) len = some (.agg ⟨(digL 32 [] []).map (.int .u8)⟩, st ++ [nilR], .eff [] len) := by
  subst hl
  have hbr : bares bsumE.ks [nv] = true := rfl
  have hx' : Bys (st ++ [some ⟨[], .rw⟩]) (slR st.length 0) st.length 0 [] := Bys.all (l := []) (kd := .rw) (by simp [byR])
  have hpk : picks st.length bsumE.ks 0 [nv] = some ([slR 0 0], [some ⟨st.length, 0, 0, false⟩]) := rfl
  refine owe_bare hbr hpk rfl ?_
  rw [gcall_bare hbr]
  have := gcall0_look (e := st.length) (ks := bsumE.ks) (spec := bsumE.spec) (st := st ++ [some ⟨[], .rw⟩]) (sst := [byR [] .ro]) (news := []) (news' := []) (res := .agg ⟨(digL 32 [] []).map (.int .u8)⟩) (res' := .agg ⟨(digL 32 [] []).map (.int .u8)⟩)
    hpk (hx'.small smalls_nil) (by simp [disjFps]) (by
      simp only [bsumE, bsumSpec, slR, byR, u8s_map]
      rw [if_pos ⟨rfl, rfl, by simp⟩]
      rfl) (by simp) rfl (sub_plain (plain_u8 _))
  simpa [nilR] using this
theorem owe_ofXNil {st : St} {x : Value} {i o len : Nat} {size : Int} {key : List Int} (hx : Bys st x i o key) (h : ¬ badN size key.length) (hl : st.length = len) :
    effI (callE ofE.ks ofE.spec [.int .i64 size, x, nv] st) (greads ofE.ks [.int .i64 size, x, nv]) len =
      some (.tuple #[.slice (some ⟨len + 1, 0, none⟩) size.toNat size.toNat, .int .i64 0], st ++ [nilR] ++ [byR (digL size key []) .rw], .eff [] len) := by
  subst hl
  have hbr : bares ofE.ks [.int .i64 size, x, nv] = true := by simp only [ofE, bares, hx.bare, Bool.false_or]; rfl
  have h3 : ∀ e, pick1 e (0 + 1 + 1) (.sl false) nv = some (slR 2 0, some ⟨e, 0, 0, false⟩) := fun _ => rfl
  have hpk : picks st.length ofE.ks 0 [.int .i64 size, x, nv] = some (argsO size key.length 0, [none, some ⟨i, o, key.length, false⟩, some ⟨st.length, 0, 0, false⟩]) := by simp only [ofE, picks, hx.pick, h3]; rfl
  have hy' : Bys (st ++ [some ⟨[], .rw⟩]) (slR st.length 0) st.length 0 [] := Bys.all (l := []) (kd := .rw) (by simp [byR])
  have hx' : Bys (st ++ [some ⟨[], .rw⟩]) x i o key := by
    obtain ⟨a, c, cs, kd, rfl, hb, hc, hs, hn, hl⟩ := hx.ex
    exact ⟨a, c, cs, kd, rfl, hb, hc, by rw [List.getElem?_append_left (List.getElem?_eq_some_iff.1 hs).1]; exact hs, hn, hl⟩
  refine owe_bare hbr hpk rfl ?_
  rw [gcall_bare hbr]
  have := gcall0_look (e := st.length) (ks := ofE.ks) (spec := ofE.spec) (st := st ++ [some ⟨[], .rw⟩]) (sst := sO key []) (news := [byR (digL size key []) .rw]) (news' := [byR (digL size key []) .rw]) (res := .tuple #[.slice (some ⟨3, 0, none⟩) size.toNat size.toNat, .int .i64 0]) (res' := .tuple #[.slice (some ⟨st.length + 1, 0, none⟩) size.toNat size.toNat, .int .i64 0])
    hpk (smalls_none (hx'.small (hy'.small smalls_nil))) (by simp [disjFps, disj1]) (by
      simp only [ofE]
      rw [show argsO size key.length 0 = argsO size key.length ([] : List Int).length from rfl, ofSpec_cells (by simp), if_neg h]) (by simp) (mapO_plainReg (by simp only [List.all_cons, List.all_nil, byR, plainReg, plain_u8, Bool.and_true])) (by
      rw [show (st ++ [some (⟨[], .rw⟩ : Reg)]).length = st.length + 1 by simp]
      rfl)
  exact this
theorem owe_hex {st : St} {x : Value} {i o len : Nat} {l : List Int} {S : ByteArray} (hx : Bys st x i o l) (hf : goC [] 40 Try.f21 [slR 0 l.length] [byR l .ro] = some (.string S, [byR l .ro])) (hl : st.length = len) :
    effI (callE hexE.ks hexE.spec [x] st) (greads hexE.ks [x]) len = some (.string S, st, .load [i]) := by
  have hbr : bares hexE.ks [x] = false := by simp only [hexE, bares, hx.bare, Bool.or_false]
  have hpk : picks 0 hexE.ks 0 [x] = some ([slR 0 l.length], [some ⟨i, o, l.length, false⟩]) := by simp only [hexE, picks, hx.pick]
  exact owe_see hbr hpk rfl (gcall_see (sst := [byR l .ro]) hbr hpk (hx.small smalls_nil) (by simp [disjFps]) hf (by simp) rfl) hl
def H0 : HS := absorb (newH 32 []) []
def d0V : V8 := (press (clr H0 H0.n.toNat) H0.n true).h
theorem d0V_eq : digL 32 [] [] = out8 d0V := rfl
theorem hex0 : goC [] 40 Try.f21 [slR 0 32] [byR (out8 d0V) .ro] = some (.string S0, [byR (out8 d0V) .ro]) := by kernel_rfl
theorem hex1 : goC [] 40 Try.f21 [slR 0 32] [byR (digL 32 key32 []) .ro] = some (.string S1, [byR (digL 32 key32 []) .ro]) := by kernel_rfl
theorem lawKnown : AC Try.prog 9 [] [] (.bool true) [] := by
  refine runNH_ok kwEs_ok Try.func9 (by kernel_rfl) ?_ (kwR d0V (digL 32 key32 [])) rfl rfl rfl
  rw [kwP]
  have hk : key32.length = 32 := rfl
  have h0 := hex0
  have h1 := hex1
  have e0 : digL 32 [] [] = out8 d0V := d0V_eq
  have hl0 : (out8 d0V).length = 32 := out8_length _
  have hl1 : (digL 32 key32 []).length = 32 := digL_length _ _ _
  have g1 := owe_bsumNil (st := sK6) (len := 1) rfl
  rw [e0] at g1
  have g2 := owe_ofXNil (st := sK7 d0V) (len := 3) (size := 32) (row_bytes (i := 0) (kd := .row 1) (l := key32) rfl hk) (by unfold badN; rw [hk]; omega) rfl
  generalize d0V = d0 at *
  generalize digL 32 key32 [] = ek at *
  refine ⟨keyRuns, ⟨rfl, g1⟩, ⟨rfl, g2⟩, tenRuns d0 ek, ⟨rfl, ?_⟩, ⟨rfl, ?_⟩, loopOu d0 ek, trivial⟩
  · have hb : Bys (sOu d0 ek) (slR 1 32) 1 0 (out8 d0) := by
      have := Bys.all (st := sOu d0 ek) (i := 1) (l := out8 d0) (kd := .rw) rfl
      rw [hl0] at this
      exact this
    exact owe_hex hb (by rw [hl0]; exact h0) rfl
  · have hb : Bys (sOu d0 ek) (sl0 2 32) 2 0 ek := by
      have := sl0_bys (st := sOu d0 ek) (i := 2) (z := 32) (l := ek) (kd := .rw) rfl (by omega)
      rw [List.take_of_length_le (by omega)] at this
      exact this
    exact owe_hex hb (by rw [hl1]; exact h1) rfl
end Go.Proofs.Ytggkdjhgknghcaa.Bl
