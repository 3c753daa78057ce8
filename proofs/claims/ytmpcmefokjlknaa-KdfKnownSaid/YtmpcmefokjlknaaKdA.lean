/- Hmac of kdf: what it comes to. Without conditions. -/
import Derived.Test.YtmpcmefokjlknaaBlF
namespace Go.Proofs.Ytmpcmefokjlknaa.Kd
open Am Run IntWalk Bl Byt

/-! what is known of single calls -/
open Classical in
/-- Contracts of single calls, in whatever memory. -/
noncomputable def instE (f : FuncId) (l : List (List Value × St × Value × St)) : Entry := ⟨f, [.whole], fun args st => match l.find? (fun x => decide (x.1 = args ∧ x.2.1 = st)) with
  | some x => some (x.2.2.1, x.2.2.2)
  | none => none⟩
theorem instE_ok {f : FuncId} {fn : Func} {l : List (List Value × St × Value × St)} (hf : Try.prog.funcs[f]? = some fn) (hn : (fn.name == "runtime.NumGoroutine") = false) (hb : fn.body.isNone = false)
    (h : ∀ x ∈ l, AC Try.prog f x.1 x.2.1 x.2.2.1 x.2.2.2) : EntryOk Try.prog (instE f l) := by
  refine ⟨fun a s r s' hh => ?_, body_of hf hn hb⟩
  simp only [instE] at hh
  split at hh
  · rename_i x hx
    cases hh
    have h1 := List.find?_some hx
    have h2 := List.mem_of_find?_eq_some hx
    simp only [decide_eq_true_eq] at h1
    obtain ⟨rfl, rfl⟩ := h1
    exact h x h2
  · cases hh
/-- What is owed for such a call. -/
def instC (e : Entry) (args : List Value) (st : St) : Option (Value × St × List Nat) :=
  match e.spec args st with
  | some (v, st') => some (v, st', List.range st.length)
  | none => none
theorem mapO_cons {α β : Type} {f : α → Option β} {a : α} {r : List α} {b : β} {l : List β} (h1 : f a = some b) (h2 : mapO f r = some l) : mapO f (a :: r) = some (b :: l) := by simp only [mapO, h1, h2]
theorem subReg_u8 {σ : Sig} (l : List Int) (k : RK) : subReg σ (byR l k) = some (byR l k) := by
  simp only [byR, subReg, mapO_plain0 (plain_u8 l)]
theorem subReg_plain {σ : Sig} {r : Option Reg} (h : plainReg r = true) : subReg σ r = some r := by
  have := mapO_plainReg (σ := σ) (l := [r]) (by simp [h])
  simp only [mapO] at this
  split at this
  · rename_i b hb; simp at this; rw [hb, this]
  · cases this
theorem mapO_nil {α β : Type} {f : α → Option β} : mapO f [] = some [] := rfl

def xor8 (a b : Int) : Int := IntKind.u8.wrap (BitVec.ofInt 8 a ^^^ BitVec.ofInt 8 b).toNat
/-- A key's block, each byte xored, and bytes behind it. -/
def padB (y : Int) (k : List Int) : List Int := (List.range 64).map fun i => xor8 (k.getD i 0) y
def padL (y : Int) (k b : List Int) : List Int := padB y k ++ b
theorem padB_length (y : Int) (k : List Int) : (padB y k).length = 64 := by simp [padB]
theorem padL_length (y : Int) (k b : List Int) : (padL y k b).length = 64 + b.length := by unfold padL; rw [List.length_append, padB_length]
/-- A digest of 32 bytes, without a key: its numbers. -/
def dgv (w : Int → Int → Int → Int → Int) (x : List Int) : V8 := Dn w (h0 32 0) x
theorem bsum_dgv {b : List Int} (hb : b.length ≤ 2 ^ 59) : digL 32 [] b = out8 (dgv wordO b) := by
  rw [digL_D (by simp) hb]; rfl
theorem owe_dg {st : St} {x : Value} {i o len : Nat} {b : List Int} (hx : Bys st x i o b) (hb : b.length ≤ 2 ^ 47) (hl : st.length = len) :
    effI (callE bsumE.ks bsumE.spec [x] st) (greads bsumE.ks [x]) len = some (.agg ⟨(out8 (dgv wordO b)).map (.int .u8)⟩, st, .load [i]) := by
  rw [owe_bsum hx hb hl, bsum_dgv (by omega)]
noncomputable def padEs : List Entry := [bsumE]
theorem padEs_ok : ∀ e ∈ padEs, EntryOk Try.prog e := es1 bsumE_ok
theorem make_cap {st : St} {n : Nat} (h : n ≤ 281474976710000) : makeCore st 1 (.int .u8 0) 64 ((64 + n : Nat) : Int) = some (.slice (some ⟨st.length, 0, some 1⟩) 64 (64 + n), st ++ [byR (List.replicate 64 0) (.row 1)], []) := by
  unfold makeCore
  rw [if_pos ⟨rfl, by decide, by decide, by omega, by omega⟩]
  simp [byR]
  omega
theorem append_cap {st : St} {i c : Nat} {a l : List Int} (h : st[i]? = some (byR a (.row 1))) (ha : a.length = 64) (hl : 64 + l.length ≤ 140737488355328) :
    appendCore st 1 1 (.int .u8 0) (.slice (some ⟨i, 0, some 1⟩) 64 c) (some (l.length, l.map (.int .u8))) = some (rowR st.length (64 + l.length), st.set i none ++ [byR (a ++ l) (.row 1)], [i]) := by
  have := append_row (i := i) (c := c) (l := l) h (by rw [ha]; exact hl)
  rw [ha] at this
  exact this
theorem source_bys {st : St} {v : Value} {i off : Nat} {l : List Int} (h : Bys st v i off l) : source st 1 v = some (l.length, l.map (.int .u8)) := by
  obtain ⟨a, c, cs, kd, rfl, hb, hc, hs, hn, hl⟩ := h.ex
  have := rd_u8 (off := off) (n := l.length * 1) hs (by omega)
  rw [Nat.mul_one] at this
  simp only [source, hb, Nat.mul_one, this, hl]
theorem copy_block {st : St} {p j o r : Nat} {x l : List Int} {kd : RK} (hp : st[p]? = some (byR (List.replicate 64 0) (.row 1))) (hj : st[j]? = some (byR x kd)) (hr : o + r ≤ x.length) (h64 : r ≤ 64) (hl : (x.drop o).take r = l) :
    copyCore st p 0 64 j o r = some (.int .i64 (r : Int), st.set p (byR (blk64 l 0) (.row 1)), [p]) := by
  have hm : Nat.min r 64 = r := Nat.min_eq_left h64
  have hll : l.length = r := by rw [← hl]; simp; omega
  unfold copyCore
  rw [hm, rd_u8 hj (by omega), Nat.mul_one, hl]
  have e : wr st p 0 (l.map (.int .u8)) = some (st.set p (byR (blk64 l 0) (.row 1))) := by
    unfold wr
    rw [hp]
    simp only [byR]
    rw [if_pos ⟨by simp, by simp; omega, one_u8 _⟩]
    congr 2
    congr 1
    apply congrArg (fun l => Reg.mk l (.row 1))
    apply List.ext_getElem?
    intro i
    rw [Bl.splice_get (by simp; omega)]
    simp only [List.length_map, hll, Nat.zero_le, true_and, Nat.zero_add, Nat.sub_zero]
    by_cases hi : i < 64
    · rw [List.getElem?_map, List.getElem?_map, List.getElem?_map, blk64, List.getElem?_map, List.getElem?_range hi, List.getElem?_replicate, if_pos hi]
      simp only [Nat.zero_add]
      by_cases h2 : i < r
      · rw [if_pos h2, getD_get (by omega)]; rfl
      · rw [if_neg h2]; simp only [Option.map_some]; rw [getD_out (x := l) (i := i) (by omega)]
    · rw [if_neg (by omega), List.getElem?_eq_none (by simp; omega), List.getElem?_eq_none (by simp [blk64]; omega)]
  simp only [e]

def zR : Option Reg := some ⟨List.replicate 32 (.int .u8 0), .rw⟩


/-! the closure, A1 -/
def stA1 (key b : List Int) : St := [byR key .ro, byR b .ro, some ⟨[slR 0 key.length], .rw⟩, zR]
def hA1 (key b : List Int) (x : List Int) (e : V8) : Hint := ⟨fun r i => match r, i with
  | 1, 2 => some (.pure (.int .i64 ((64 + b.length : Nat) : Int)))
  | 1, 3 => some (.eff (.slice (some ⟨5, 0, some 1⟩) 64 (64 + b.length)) (fun s => s ++ [byR (List.replicate 64 0) (.row 1)]) [])
  | 2, 2 => some (.eff (.int .i64 (key.length : Nat)) (fun s => s.set 5 (byR (blk64 key 0) (.row 1))) [5])
  | 8, 2 => some (.eff (rowR 6 (64 + b.length)) (fun s => s.set 5 none ++ [byR x (.row 1)]) [5])
  | 8, 3 => some (.read (.agg ⟨(out8 e).map (.int .u8)⟩) [6])
  | _, _ => none, fun _ => none⟩
def paA1 (key b : List Int) (y : Int) : List Value := [.int .u8 y, slR 1 b.length, pR 2]
theorem padA1R (key b : List Int) (x : List Int) (e : V8) (y : Int) : goFH padEs (hA1 key b x e) 65 Try.f27 (paA1 key b y) (stA1 key b) = some (.agg ⟨(out8 e).map (.int .u8)⟩, stA1 key b ++ [some ⟨(out8 e).map (.int .u8), .rw⟩] ++ [none] ++ [byR x (.row 1)]) := by kernel_rfl
theorem padA1P (key b : List Int) (x : List Int) (e : V8) (y : Int) : owes padEs (hA1 key b x e) 65 Try.f27 (paA1 key b y) (stA1 key b) =
    (aint .add .i64 64 (b.length : Int) = some (.int .i64 ((64 + b.length : Nat) : Int)) ∧
     ((none : Option Value) = none ∧ effI (makeCore (stA1 key b ++ [zR]) 1 (.int .u8 0) 64 ((64 + b.length : Nat) : Int)) none 5 = some (.slice (some ⟨5, 0, some 1⟩) 64 (64 + b.length), stA1 key b ++ [zR] ++ [byR (List.replicate 64 0) (.row 1)], .eff [] 5)) ∧
     ((none : Option Value) = none ∧ effI (copyCore (stA1 key b ++ [zR] ++ [byR (List.replicate 64 0) (.row 1)]) 5 0 64 0 0 key.length) none 6 = some (.int .i64 (key.length : Nat), stA1 key b ++ [zR] ++ [byR (blk64 key 0) (.row 1)], .eff [5] 6)) ∧
     ((none : Option Value) = none ∧ effI (appendCore (stA1 key b ++ [zR] ++ [byR (padB y key) (.row 1)]) 1 1 (.int .u8 0) (.slice (some ⟨5, 0, some 1⟩) 64 (64 + b.length)) (source (stA1 key b ++ [zR] ++ [byR (padB y key) (.row 1)]) 1 (slR 1 b.length))) none 6 = some (rowR 6 (64 + b.length), stA1 key b ++ [zR] ++ [none] ++ [byR x (.row 1)], .eff [5] 6)) ∧
     ((none : Option Value) = none ∧ effI (callE bsumE.ks bsumE.spec [rowR 6 (64 + b.length)] (stA1 key b ++ [zR] ++ [none] ++ [byR x (.row 1)])) (greads bsumE.ks [rowR 6 (64 + b.length)]) (6 + 1) = some (.agg ⟨(out8 e).map (.int .u8)⟩, stA1 key b ++ [zR] ++ [none] ++ [byR x (.row 1)], .load [6])) ∧ True) := by kernel_rfl
theorem padA1 (key b : List Int) (y : Int) (hk : key.length ≤ 64) (hb : b.length ≤ 140737488355264) : AC Try.prog 27 (paA1 key b y) (stA1 key b) (.agg ⟨(out8 (dgv wordO (padL y key b))).map (.int .u8)⟩) (stA1 key b) := by
  have h := runH_ok padEs_ok Try.func27 (by kernel_rfl) (hint := hA1 key b (padL y key b) (dgv wordO (padL y key b))) (n := 65) (a := paA1 key b y) (s := stA1 key b) (by
    rw [padA1P]
    refine ⟨add_i64 (by omega) (by omega), ⟨rfl, ?_⟩, ⟨rfl, ?_⟩, ⟨rfl, ?_⟩, ⟨rfl, ?_⟩, trivial⟩
    · rw [make_cap (by omega)]; rfl
    · rw [copy_block (x := key) (l := key) (kd := .ro) rfl rfl (by omega) (by omega) (by simp)]; rfl
    · have hs := source_bys (st := stA1 key b ++ [zR] ++ [byR (padB y key) (.row 1)]) (Bys.all (i := 1) (l := b) rfl)
      have ha := append_cap (st := stA1 key b ++ [zR] ++ [byR (padB y key) (.row 1)]) (i := 5) (c := 64 + b.length) (a := padB y key) (l := b) rfl (padB_length _ _) (by omega)
      rw [show (slR 1 b.length : Value) = slR 1 (b).length from rfl, hs, ha]
      rfl
    · have := owe_dg (st := stA1 key b ++ [zR] ++ [none] ++ [byR (padL y key b) (.row 1)]) (len := 6 + 1) (row_bytes (i := 6) (n := 64 + b.length) rfl (padL_length _ _ _)) (by rw [padL_length]; omega) rfl
      exact this) (padA1R key b _ _ y)
  refine h.view [0, 1, 2, 3] rfl (nodupB_spec rfl) ?_ (sub_plain (plain_u8 _))
  exact (mapO_cons (subReg_u8 _ _) (mapO_cons (subReg_u8 _ _) (mapO_cons rfl (mapO_cons rfl mapO_nil))))


/-! the closure, A2 -/
def stA2 (key b : List Int) (g : V8) : St := [byR key .ro, byR b .ro, some ⟨[slR 0 key.length], .rw⟩, zR, byR (out8 g) .rw]
def hA2 (key b : List Int) (g : V8) (x : List Int) (e : V8) : Hint := ⟨fun r i => match r, i with
  | 1, 3 => some (.eff (.slice (some ⟨6, 0, some 1⟩) 64 (64 + 32)) (fun s => s ++ [byR (List.replicate 64 0) (.row 1)]) [])
  | 2, 2 => some (.eff (.int .i64 (key.length : Nat)) (fun s => s.set 6 (byR (blk64 key 0) (.row 1))) [6])
  | 8, 2 => some (.eff (rowR 7 (64 + 32)) (fun s => s.set 6 none ++ [byR x (.row 1)]) [6])
  | 8, 3 => some (.read (.agg ⟨(out8 e).map (.int .u8)⟩) [7])
  | _, _ => none, fun _ => none⟩
def paA2 (key b : List Int) (g : V8) (y : Int) : List Value := [.int .u8 y, slR 4 32, pR 2]
theorem padA2R (key b : List Int) (g : V8) (x : List Int) (e : V8) (y : Int) : goFH padEs (hA2 key b g x e) 65 Try.f27 (paA2 key b g y) (stA2 key b g) = some (.agg ⟨(out8 e).map (.int .u8)⟩, stA2 key b g ++ [some ⟨(out8 e).map (.int .u8), .rw⟩] ++ [none] ++ [byR x (.row 1)]) := by kernel_rfl
theorem padA2P (key b : List Int) (g : V8) (x : List Int) (e : V8) (y : Int) : owes padEs (hA2 key b g x e) 65 Try.f27 (paA2 key b g y) (stA2 key b g) =
    (
     ((none : Option Value) = none ∧ effI (makeCore (stA2 key b g ++ [zR]) 1 (.int .u8 0) 64 ((64 + 32 : Nat) : Int)) none 6 = some (.slice (some ⟨6, 0, some 1⟩) 64 (64 + 32), stA2 key b g ++ [zR] ++ [byR (List.replicate 64 0) (.row 1)], .eff [] 6)) ∧
     ((none : Option Value) = none ∧ effI (copyCore (stA2 key b g ++ [zR] ++ [byR (List.replicate 64 0) (.row 1)]) 6 0 64 0 0 key.length) none 7 = some (.int .i64 (key.length : Nat), stA2 key b g ++ [zR] ++ [byR (blk64 key 0) (.row 1)], .eff [6] 7)) ∧
     ((none : Option Value) = none ∧ effI (appendCore (stA2 key b g ++ [zR] ++ [byR (padB y key) (.row 1)]) 1 1 (.int .u8 0) (.slice (some ⟨6, 0, some 1⟩) 64 (64 + 32)) (source (stA2 key b g ++ [zR] ++ [byR (padB y key) (.row 1)]) 1 (slR 4 32))) none 7 = some (rowR 7 (64 + 32), stA2 key b g ++ [zR] ++ [none] ++ [byR x (.row 1)], .eff [6] 7)) ∧
     ((none : Option Value) = none ∧ effI (callE bsumE.ks bsumE.spec [rowR 7 (64 + 32)] (stA2 key b g ++ [zR] ++ [none] ++ [byR x (.row 1)])) (greads bsumE.ks [rowR 7 (64 + 32)]) (7 + 1) = some (.agg ⟨(out8 e).map (.int .u8)⟩, stA2 key b g ++ [zR] ++ [none] ++ [byR x (.row 1)], .load [7])) ∧ True) := by kernel_rfl
theorem padA2 (key b : List Int) (g : V8) (y : Int) (hk : key.length ≤ 64) : AC Try.prog 27 (paA2 key b g y) (stA2 key b g) (.agg ⟨(out8 (dgv wordO (padL y key (out8 g)))).map (.int .u8)⟩) (stA2 key b g) := by
  have h := runH_ok padEs_ok Try.func27 (by kernel_rfl) (hint := hA2 key b g (padL y key (out8 g)) (dgv wordO (padL y key (out8 g)))) (n := 65) (a := paA2 key b g y) (s := stA2 key b g) (by
    rw [padA2P]
    refine ⟨⟨rfl, ?_⟩, ⟨rfl, ?_⟩, ⟨rfl, ?_⟩, ⟨rfl, ?_⟩, trivial⟩
    · rw [make_cap (by omega)]; rfl
    · rw [copy_block (x := key) (l := key) (kd := .ro) rfl rfl (by omega) (by omega) (by simp)]; rfl
    · have hs := source_bys (st := stA2 key b g ++ [zR] ++ [byR (padB y key) (.row 1)]) (Bys.all (i := 4) (l := (out8 g)) rfl)
      have ha := append_cap (st := stA2 key b g ++ [zR] ++ [byR (padB y key) (.row 1)]) (i := 6) (c := 64 + 32) (a := padB y key) (l := (out8 g)) rfl (padB_length _ _) (by rw [out8_length]; decide)
      rw [show (slR 4 32 : Value) = slR 4 ((out8 g)).length from rfl, hs, ha]
      rfl
    · have := owe_dg (st := stA2 key b g ++ [zR] ++ [none] ++ [byR (padL y key (out8 g)) (.row 1)]) (len := 7 + 1) (row_bytes (i := 7) (n := 64 + 32) rfl (padL_length _ _ _)) (by rw [padL_length]; rw [out8_length]; decide) rfl
      exact this) (padA2R key b g _ _ y)
  refine h.view [0, 1, 2, 3, 4] rfl (nodupB_spec rfl) ?_ (sub_plain (plain_u8 _))
  exact (mapO_cons (subReg_u8 _ _) (mapO_cons (subReg_u8 _ _) (mapO_cons rfl (mapO_cons rfl (mapO_cons (subReg_u8 _ _) mapO_nil)))))


/-! the closure, B1 -/
def stB1 (key b : List Int) (d : V8) : St := [byR key .ro, byR b .ro, some ⟨[slR 4 32], .rw⟩, zR, byR (out8 d) .rw]
def hB1 (key b : List Int) (d : V8) (x : List Int) (e : V8) : Hint := ⟨fun r i => match r, i with
  | 1, 2 => some (.pure (.int .i64 ((64 + b.length : Nat) : Int)))
  | 1, 3 => some (.eff (.slice (some ⟨6, 0, some 1⟩) 64 (64 + b.length)) (fun s => s ++ [byR (List.replicate 64 0) (.row 1)]) [])
  | 2, 2 => some (.eff (.int .i64 (32 : Nat)) (fun s => s.set 6 (byR (blk64 (out8 d) 0) (.row 1))) [6])
  | 8, 2 => some (.eff (rowR 7 (64 + b.length)) (fun s => s.set 6 none ++ [byR x (.row 1)]) [6])
  | 8, 3 => some (.read (.agg ⟨(out8 e).map (.int .u8)⟩) [7])
  | _, _ => none, fun _ => none⟩
def paB1 (key b : List Int) (d : V8) (y : Int) : List Value := [.int .u8 y, slR 1 b.length, pR 2]
theorem padB1R (key b : List Int) (d : V8) (x : List Int) (e : V8) (y : Int) : goFH padEs (hB1 key b d x e) 65 Try.f27 (paB1 key b d y) (stB1 key b d) = some (.agg ⟨(out8 e).map (.int .u8)⟩, stB1 key b d ++ [some ⟨(out8 e).map (.int .u8), .rw⟩] ++ [none] ++ [byR x (.row 1)]) := by kernel_rfl
theorem padB1P (key b : List Int) (d : V8) (x : List Int) (e : V8) (y : Int) : owes padEs (hB1 key b d x e) 65 Try.f27 (paB1 key b d y) (stB1 key b d) =
    (aint .add .i64 64 (b.length : Int) = some (.int .i64 ((64 + b.length : Nat) : Int)) ∧
     ((none : Option Value) = none ∧ effI (makeCore (stB1 key b d ++ [zR]) 1 (.int .u8 0) 64 ((64 + b.length : Nat) : Int)) none 6 = some (.slice (some ⟨6, 0, some 1⟩) 64 (64 + b.length), stB1 key b d ++ [zR] ++ [byR (List.replicate 64 0) (.row 1)], .eff [] 6)) ∧
     ((none : Option Value) = none ∧ effI (copyCore (stB1 key b d ++ [zR] ++ [byR (List.replicate 64 0) (.row 1)]) 6 0 64 4 0 32) none 7 = some (.int .i64 (32 : Nat), stB1 key b d ++ [zR] ++ [byR (blk64 (out8 d) 0) (.row 1)], .eff [6] 7)) ∧
     ((none : Option Value) = none ∧ effI (appendCore (stB1 key b d ++ [zR] ++ [byR (padB y (out8 d)) (.row 1)]) 1 1 (.int .u8 0) (.slice (some ⟨6, 0, some 1⟩) 64 (64 + b.length)) (source (stB1 key b d ++ [zR] ++ [byR (padB y (out8 d)) (.row 1)]) 1 (slR 1 b.length))) none 7 = some (rowR 7 (64 + b.length), stB1 key b d ++ [zR] ++ [none] ++ [byR x (.row 1)], .eff [6] 7)) ∧
     ((none : Option Value) = none ∧ effI (callE bsumE.ks bsumE.spec [rowR 7 (64 + b.length)] (stB1 key b d ++ [zR] ++ [none] ++ [byR x (.row 1)])) (greads bsumE.ks [rowR 7 (64 + b.length)]) (7 + 1) = some (.agg ⟨(out8 e).map (.int .u8)⟩, stB1 key b d ++ [zR] ++ [none] ++ [byR x (.row 1)], .load [7])) ∧ True) := by kernel_rfl
theorem padB1 (key b : List Int) (d : V8) (y : Int) (hb : b.length ≤ 140737488355264) : AC Try.prog 27 (paB1 key b d y) (stB1 key b d) (.agg ⟨(out8 (dgv wordO (padL y (out8 d) b))).map (.int .u8)⟩) (stB1 key b d) := by
  have h := runH_ok padEs_ok Try.func27 (by kernel_rfl) (hint := hB1 key b d (padL y (out8 d) b) (dgv wordO (padL y (out8 d) b))) (n := 65) (a := paB1 key b d y) (s := stB1 key b d) (by
    rw [padB1P]
    refine ⟨add_i64 (by omega) (by omega), ⟨rfl, ?_⟩, ⟨rfl, ?_⟩, ⟨rfl, ?_⟩, ⟨rfl, ?_⟩, trivial⟩
    · rw [make_cap (by omega)]; rfl
    · rw [copy_block (x := (out8 d)) (l := (out8 d)) (kd := .rw) rfl rfl (by rw [out8_length]; decide) (by decide) (by simp; rfl)]; rfl
    · have hs := source_bys (st := stB1 key b d ++ [zR] ++ [byR (padB y (out8 d)) (.row 1)]) (Bys.all (i := 1) (l := b) rfl)
      have ha := append_cap (st := stB1 key b d ++ [zR] ++ [byR (padB y (out8 d)) (.row 1)]) (i := 6) (c := 64 + b.length) (a := padB y (out8 d)) (l := b) rfl (padB_length _ _) (by omega)
      rw [show (slR 1 b.length : Value) = slR 1 (b).length from rfl, hs, ha]
      rfl
    · have := owe_dg (st := stB1 key b d ++ [zR] ++ [none] ++ [byR (padL y (out8 d) b) (.row 1)]) (len := 7 + 1) (row_bytes (i := 7) (n := 64 + b.length) rfl (padL_length _ _ _)) (by rw [padL_length]; omega) rfl
      exact this) (padB1R key b d _ _ y)
  refine h.view [0, 1, 2, 3, 4] rfl (nodupB_spec rfl) ?_ (sub_plain (plain_u8 _))
  exact (mapO_cons (subReg_u8 _ _) (mapO_cons (subReg_u8 _ _) (mapO_cons rfl (mapO_cons rfl (mapO_cons (subReg_u8 _ _) mapO_nil)))))


/-! the closure, B2 -/
def stB2 (key b : List Int) (d g : V8) : St := [byR key .ro, byR b .ro, some ⟨[slR 4 32], .rw⟩, zR, byR (out8 d) .rw, byR (out8 g) .rw]
def hB2 (key b : List Int) (d g : V8) (x : List Int) (e : V8) : Hint := ⟨fun r i => match r, i with
  | 1, 3 => some (.eff (.slice (some ⟨7, 0, some 1⟩) 64 (64 + 32)) (fun s => s ++ [byR (List.replicate 64 0) (.row 1)]) [])
  | 2, 2 => some (.eff (.int .i64 (32 : Nat)) (fun s => s.set 7 (byR (blk64 (out8 d) 0) (.row 1))) [7])
  | 8, 2 => some (.eff (rowR 8 (64 + 32)) (fun s => s.set 7 none ++ [byR x (.row 1)]) [7])
  | 8, 3 => some (.read (.agg ⟨(out8 e).map (.int .u8)⟩) [8])
  | _, _ => none, fun _ => none⟩
def paB2 (key b : List Int) (d g : V8) (y : Int) : List Value := [.int .u8 y, slR 5 32, pR 2]
theorem padB2R (key b : List Int) (d g : V8) (x : List Int) (e : V8) (y : Int) : goFH padEs (hB2 key b d g x e) 65 Try.f27 (paB2 key b d g y) (stB2 key b d g) = some (.agg ⟨(out8 e).map (.int .u8)⟩, stB2 key b d g ++ [some ⟨(out8 e).map (.int .u8), .rw⟩] ++ [none] ++ [byR x (.row 1)]) := by kernel_rfl
theorem padB2P (key b : List Int) (d g : V8) (x : List Int) (e : V8) (y : Int) : owes padEs (hB2 key b d g x e) 65 Try.f27 (paB2 key b d g y) (stB2 key b d g) =
    (
     ((none : Option Value) = none ∧ effI (makeCore (stB2 key b d g ++ [zR]) 1 (.int .u8 0) 64 ((64 + 32 : Nat) : Int)) none 7 = some (.slice (some ⟨7, 0, some 1⟩) 64 (64 + 32), stB2 key b d g ++ [zR] ++ [byR (List.replicate 64 0) (.row 1)], .eff [] 7)) ∧
     ((none : Option Value) = none ∧ effI (copyCore (stB2 key b d g ++ [zR] ++ [byR (List.replicate 64 0) (.row 1)]) 7 0 64 4 0 32) none 8 = some (.int .i64 (32 : Nat), stB2 key b d g ++ [zR] ++ [byR (blk64 (out8 d) 0) (.row 1)], .eff [7] 8)) ∧
     ((none : Option Value) = none ∧ effI (appendCore (stB2 key b d g ++ [zR] ++ [byR (padB y (out8 d)) (.row 1)]) 1 1 (.int .u8 0) (.slice (some ⟨7, 0, some 1⟩) 64 (64 + 32)) (source (stB2 key b d g ++ [zR] ++ [byR (padB y (out8 d)) (.row 1)]) 1 (slR 5 32))) none 8 = some (rowR 8 (64 + 32), stB2 key b d g ++ [zR] ++ [none] ++ [byR x (.row 1)], .eff [7] 8)) ∧
     ((none : Option Value) = none ∧ effI (callE bsumE.ks bsumE.spec [rowR 8 (64 + 32)] (stB2 key b d g ++ [zR] ++ [none] ++ [byR x (.row 1)])) (greads bsumE.ks [rowR 8 (64 + 32)]) (8 + 1) = some (.agg ⟨(out8 e).map (.int .u8)⟩, stB2 key b d g ++ [zR] ++ [none] ++ [byR x (.row 1)], .load [8])) ∧ True) := by kernel_rfl
theorem padB2 (key b : List Int) (d g : V8) (y : Int) : AC Try.prog 27 (paB2 key b d g y) (stB2 key b d g) (.agg ⟨(out8 (dgv wordO (padL y (out8 d) (out8 g)))).map (.int .u8)⟩) (stB2 key b d g) := by
  have h := runH_ok padEs_ok Try.func27 (by kernel_rfl) (hint := hB2 key b d g (padL y (out8 d) (out8 g)) (dgv wordO (padL y (out8 d) (out8 g)))) (n := 65) (a := paB2 key b d g y) (s := stB2 key b d g) (by
    rw [padB2P]
    refine ⟨⟨rfl, ?_⟩, ⟨rfl, ?_⟩, ⟨rfl, ?_⟩, ⟨rfl, ?_⟩, trivial⟩
    · rw [make_cap (by omega)]; rfl
    · rw [copy_block (x := (out8 d)) (l := (out8 d)) (kd := .rw) rfl rfl (by rw [out8_length]; decide) (by decide) (by simp; rfl)]; rfl
    · have hs := source_bys (st := stB2 key b d g ++ [zR] ++ [byR (padB y (out8 d)) (.row 1)]) (Bys.all (i := 5) (l := (out8 g)) rfl)
      have ha := append_cap (st := stB2 key b d g ++ [zR] ++ [byR (padB y (out8 d)) (.row 1)]) (i := 7) (c := 64 + 32) (a := padB y (out8 d)) (l := (out8 g)) rfl (padB_length _ _) (by rw [out8_length]; decide)
      rw [show (slR 5 32 : Value) = slR 5 ((out8 g)).length from rfl, hs, ha]
      rfl
    · have := owe_dg (st := stB2 key b d g ++ [zR] ++ [none] ++ [byR (padL y (out8 d) (out8 g)) (.row 1)]) (len := 8 + 1) (row_bytes (i := 8) (n := 64 + 32) rfl (padL_length _ _ _)) (by rw [padL_length]; rw [out8_length]; decide) rfl
      exact this) (padB2R key b d g _ _ y)
  refine h.view [0, 1, 2, 3, 4, 5] rfl (nodupB_spec rfl) ?_ (sub_plain (plain_u8 _))
  exact (mapO_cons (subReg_u8 _ _) (mapO_cons (subReg_u8 _ _) (mapO_cons rfl (mapO_cons rfl (mapO_cons (subReg_u8 _ _) (mapO_cons (subReg_u8 _ _) mapO_nil))))))

end Go.Proofs.Ytmpcmefokjlknaa.Kd
