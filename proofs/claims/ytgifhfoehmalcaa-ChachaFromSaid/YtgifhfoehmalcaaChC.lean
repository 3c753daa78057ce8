/- The document's block of chacha comes to the same function, but for how four bytes make a number: without conditions. -/
import Derived.Test.YtgifhfoehmalcaaChB
namespace Go.Proofs.Ytgifhfoehmalcaa.Ch
open Am Run

noncomputable def numE : Entry := ⟨29, [.sl false, .val], goC [] 8 Try.f29⟩
theorem numE_ok : EntryOk Try.prog numE := entryC es0 Try.func29 (by kernel_rfl) (by kernel_rfl)
noncomputable def placesE : Entry := ⟨30, [], goC [] 0 Try.f30⟩
theorem placesE_ok : EntryOk Try.prog placesE := entryC es0 Try.func30 (by kernel_rfl) (by kernel_rfl)
noncomputable def refEs : List Entry := [refQuarterE, numE, placesE]
theorem refEs_ok : ∀ e ∈ refEs, EntryOk Try.prog e := esc refQuarterE_ok (esc numE_ok (es1 placesE_ok))

noncomputable def cR : Code := loopOf 14 (body Try.f25)
def placesC : List Value := ([0, 4, 8, 12, 1, 5, 9, 13, 2, 6, 10, 14, 3, 7, 11, 15, 0, 5, 10, 15, 1, 6, 11, 12, 2, 7, 8, 13, 3, 4, 9, 14] : List Int).map (.int .i64)
def tR (k : Nat) : List Value := slots 107 [(6, pR 5), (7, pR 6), (10, pR 7), (11, pR 8), (12, .int .i64 k)]
def sR (a b c d : Option Reg) (v : V16) : St := [none, none, none, a, b, c, d, some ⟨v.cells, .rw⟩, some ⟨placesC, .rw⟩]
def dbl : Nat → V16 → V16
  | 0, v => v
  | k + 1, v => diaR (colR (dbl k v))
theorem halfs_dbl (v : V16) : ∀ k, halfs (2 * k) v = dbl k v := by
  intro k
  induction k with
  | zero => rfl
  | succ k ih =>
    show half (2 * k + 1) (half (2 * k) (halfs (2 * k) v)) = diaR (colR (dbl k v))
    have e1 : 2 * k % 2 = 0 := by omega
    have e2 : ¬ (2 * k + 1) % 2 = 0 := by omega
    rw [ih]
    unfold half
    rw [if_neg e2, if_pos e1]
/-! one round's eight quarter rounds -/
noncomputable def cQ : Code := loopOf 17 (body Try.f25)
def tQ (r k : Nat) : List Value := slots 107 [(6, pR 5), (7, pR 6), (10, pR 7), (11, pR 8), (12, .int .i64 r), (13, .int .i64 k)]
def q1 (v : V16) : Nat → V16
  | 0 => let p := qr ⟨v.x0, v.x4, v.x8, v.x12⟩; { v with x0 := p.a, x4 := p.b, x8 := p.c, x12 := p.d }
  | 1 => let p := qr ⟨v.x1, v.x5, v.x9, v.x13⟩; { v with x1 := p.a, x5 := p.b, x9 := p.c, x13 := p.d }
  | 2 => let p := qr ⟨v.x2, v.x6, v.x10, v.x14⟩; { v with x2 := p.a, x6 := p.b, x10 := p.c, x14 := p.d }
  | 3 => let p := qr ⟨v.x3, v.x7, v.x11, v.x15⟩; { v with x3 := p.a, x7 := p.b, x11 := p.c, x15 := p.d }
  | 4 => let p := qr ⟨v.x0, v.x5, v.x10, v.x15⟩; { v with x0 := p.a, x5 := p.b, x10 := p.c, x15 := p.d }
  | 5 => let p := qr ⟨v.x1, v.x6, v.x11, v.x12⟩; { v with x1 := p.a, x6 := p.b, x11 := p.c, x12 := p.d }
  | 6 => let p := qr ⟨v.x2, v.x7, v.x8, v.x13⟩; { v with x2 := p.a, x7 := p.b, x8 := p.c, x13 := p.d }
  | _ => let p := qr ⟨v.x3, v.x4, v.x9, v.x14⟩; { v with x3 := p.a, x4 := p.b, x9 := p.c, x14 := p.d }
def qs (v : V16) : Nat → V16
  | 0 => v
  | k + 1 => q1 (qs v k) k
theorem qs_8 (v : V16) : qs v 8 = diaR (colR v) := by cases v; rfl
theorem stepQ (a b c d : Option Reg) (v : V16) (r : Nat) : ∀ k, k < 8 → stepV refEs noHint 5 cQ (List.range 9) [] [6, 7, 10, 11, 12, 13] (tQ r k) (sR a b c d v) = some (.normal, tQ r (k + 1), sR a b c d (q1 v k))
  | 0, _ => by kernel_rfl
  | 1, _ => by kernel_rfl
  | 2, _ => by kernel_rfl
  | 3, _ => by kernel_rfl
  | 4, _ => by kernel_rfl
  | 5, _ => by kernel_rfl
  | 6, _ => by kernel_rfl
  | 7, _ => by kernel_rfl
  | n + 8, h => absurd h (by omega)
theorem stopQ (a b c d : Option Reg) (v : V16) (r : Nat) : stepV refEs noHint 5 cQ (List.range 9) [] [6, 7, 10, 11, 12, 13] (tQ r 8) (sR a b c d v) = some (.exit 6, tQ r 8, sR a b c d v) := by kernel_rfl
theorem plR {a b c d : Option Reg} (h : [a, b, c, d].all plainReg = true) (v : V16) : plainBut [] 0 (sR a b c d v) = true := by
  simp only [List.all_cons, List.all_nil, Bool.and_true, Bool.and_eq_true] at h
  obtain ⟨h1, h2, h3, h4⟩ := h
  have e1 : plainReg (some ⟨v.cells, .rw⟩) = true := rfl
  have e2 : plainReg (some ⟨placesC, .rw⟩) = true := rfl
  simp only [sR, plainBut, h1, h2, h3, h4, e1, e2, Bool.or_true, Bool.and_true]
  rfl
theorem loopQ {a b c d : Option Reg} (h : [a, b, c, d].all plainReg = true) (v : V16) (r : Nat) : RunsP (.loop cQ) (tQ r 0) (sR a b c d v) (.exit 6) (tQ r 8) (sR a b c d (diaR (colR v))) := by
  have := Runs.count 8 (tQ r) (fun k => sR a b c d (qs v k)) (fun k hk => step0_ok refEs_ok (stepQ a b c d (qs v k) r k hk) (plR h _)) (step0_ok refEs_ok (stopQ a b c d _ r) (plR h _)) (by simp)
  rw [qs_8] at this
  exact this
def hQ (r : Nat) : Hint := ⟨fun _ _ => none, fun i => if i = 17 then some ([6, 7, 10, 11, 12, 13], fun _ s => match s with
  | [none, none, none, a, b, c, d, some ⟨[.int .u32 x0, .int .u32 x1, .int .u32 x2, .int .u32 x3, .int .u32 x4, .int .u32 x5, .int .u32 x6, .int .u32 x7, .int .u32 x8, .int .u32 x9, .int .u32 x10, .int .u32 x11, .int .u32 x12, .int .u32 x13, .int .u32 x14, .int .u32 x15], .rw⟩, some _] =>
    some (.exit 6, tQ r 8, sR a b c d (diaR (colR ⟨x0, x1, x2, x3, x4, x5, x6, x7, x8, x9, x10, x11, x12, x13, x14, x15⟩)))
  | _ => none) else none⟩
theorem stepR (a b c d : Option Reg) (v : V16) : ∀ k, k < 10 → stepV refEs (hQ k) 9 cR (List.range 9) [] [6, 7, 10, 11, 12] (tR k) (sR a b c d v) = some (.normal, tR (k + 1), sR a b c d (diaR (colR v)))
  | 0, _ => by kernel_rfl
  | 1, _ => by kernel_rfl
  | 2, _ => by kernel_rfl
  | 3, _ => by kernel_rfl
  | 4, _ => by kernel_rfl
  | 5, _ => by kernel_rfl
  | 6, _ => by kernel_rfl
  | 7, _ => by kernel_rfl
  | 8, _ => by kernel_rfl
  | 9, _ => by kernel_rfl
  | n + 10, h => absurd h (by omega)
theorem stepRP (a b c d : Option Reg) (v : V16) : ∀ k, k < 10 → stepP refEs (hQ k) 9 cR (tR k) (sR a b c d v) = (RunsP (.loop cQ) (tQ k 0) (sR a b c d v) (.exit 6) (tQ k 8) (sR a b c d (diaR (colR v))) ∧ True)
  | 0, _ => by kernel_rfl
  | 1, _ => by kernel_rfl
  | 2, _ => by kernel_rfl
  | 3, _ => by kernel_rfl
  | 4, _ => by kernel_rfl
  | 5, _ => by kernel_rfl
  | 6, _ => by kernel_rfl
  | 7, _ => by kernel_rfl
  | 8, _ => by kernel_rfl
  | 9, _ => by kernel_rfl
  | n + 10, h => absurd h (by omega)
theorem stopR (a b c d : Option Reg) (v : V16) : stepV refEs noHint 9 cR (List.range 9) [] [6, 7, 10, 11, 12] (tR 10) (sR a b c d v) = some (.exit 4, tR 10, sR a b c d v) := by kernel_rfl
theorem loopR {a b c d : Option Reg} (h : [a, b, c, d].all plainReg = true) (v : V16) : RunsP (.loop cR) (tR 0) (sR a b c d v) (.exit 4) (tR 10) (sR a b c d (dbl 10 v)) :=
  Runs.count 10 tR (fun k => sR a b c d (dbl k v)) (fun k hk => step_ok refEs_ok (by rw [stepRP a b c d _ k hk]; exact ⟨loopQ h _ k, trivial⟩) (stepR a b c d (dbl k v) k hk) (plR h _)) (step0_ok refEs_ok (stopR a b c d _) (plR h _)) (by simp)

def hR : Hint := ⟨fun _ _ => none, fun r => if r = 14 then some ([6, 7, 10, 11, 12], fun _ s => match s with
  | [none, none, none, a, b, c, d, some ⟨[.int .u32 x0, .int .u32 x1, .int .u32 x2, .int .u32 x3, .int .u32 x4, .int .u32 x5, .int .u32 x6, .int .u32 x7, .int .u32 x8, .int .u32 x9, .int .u32 x10, .int .u32 x11, .int .u32 x12, .int .u32 x13, .int .u32 x14, .int .u32 x15], .rw⟩, some _] =>
    some (.exit 4, tR 10, sR a b c d (dbl 10 ⟨x0, x1, x2, x3, x4, x5, x6, x7, x8, x9, x10, x11, x12, x13, x14, x15⟩))
  | _ => none) else none⟩
theorem owesR (K N : Nat → Int) (c : Int) : owes refEs hR 65 Try.f25 [.agg ⟨u8N 32 K⟩, .int .u32 c, .agg ⟨u8N 12 N⟩] [none, none, none] =
    (RunsP (.loop cR) (tR 0) (sR (some ⟨u8N 32 K, .rw⟩) (some ⟨u8N 12 N, .rw⟩) (some ⟨List.replicate 64 (.int .u8 0), .rw⟩) (some ⟨(start wordA K c N).cells, .rw⟩) (start wordA K c N)) (.exit 4) (tR 10)
      (sR (some ⟨u8N 32 K, .rw⟩) (some ⟨u8N 12 N, .rw⟩) (some ⟨List.replicate 64 (.int .u8 0), .rw⟩) (some ⟨(start wordA K c N).cells, .rw⟩) (dbl 10 (start wordA K c N))) ∧ True) := by kernel_rfl
theorem runR0 (K N : Nat → Int) (c : Int) : goNH refEs hR 65 Try.f25 [.agg ⟨u8N 32 K⟩, .int .u32 c, .agg ⟨u8N 12 N⟩] [none, none, none] =
    some (.agg ⟨(outB (dbl 10 (start wordA K c N)) (start wordA K c N)).map (.int .u8)⟩, [none, none, none]) := by kernel_rfl
theorem runR (K N : Nat → Int) (c : Int) : goNH refEs hR 65 Try.f25 [.agg ⟨u8N 32 K⟩, .int .u32 c, .agg ⟨u8N 12 N⟩] [none, none, none] =
    some (.agg ⟨(blockOf wordA K c N).map (.int .u8)⟩, [none, none, none]) := by
  rw [runR0]; unfold blockOf; rw [show (20 : Nat) = 2 * 10 from rfl, halfs_dbl]
noncomputable def refBlockE : Entry := ⟨25, [.val, .val, .val], blockSpec wordA⟩
theorem refBlockE_ok : EntryOk Try.prog refBlockE := by
  refine ⟨fun a s r s' h => ?_, body_of Try.func25 (by kernel_rfl) (by kernel_rfl)⟩
  simp only [refBlockE] at h
  unfold blockSpec at h
  split at h
  · rename_i ks c ns
    split at h
    · rename_i K N hK hN
      split at h
      · rename_i hl
        cases h
        rw [u8s_spec hK, u8s_spec hN, list_range hl.1, list_range hl.2]
        refine runNH_ok refEs_ok Try.func25 (by kernel_rfl) ?_ (runR _ _ _) rfl rfl (plain_u8 _)
        rw [show (List.map (fun i => Value.int IntKind.u8 (K.getD i 0)) (List.range 32)) = u8N 32 fun i => K.getD i 0 from rfl, show (List.map (fun i => Value.int IntKind.u8 (N.getD i 0)) (List.range 12)) = u8N 12 fun i => N.getD i 0 from rfl, owesR]
        exact ⟨loopR (by rfl) _, trivial⟩
      · cases h
    · cases h
  · cases h
end Go.Proofs.Ytgifhfoehmalcaa.Ch
