/- The document's press of blake comes to the same function, but for how four bytes make a number: without conditions. -/
import Derived.Test.YtggkdjhgknghcaaBlQ
import Derived.Test.YtggkdjhgknghcaaBlD
namespace Go.Proofs.Ytggkdjhgknghcaa.Bl
open Am Run IntWalk

def hQ : Hint := ⟨fun _ _ => none, fun r => if r = 20 then some (liveQ, fun _ s => match s with
  | [none, B, none, none, H, O, some ⟨[.int .u32 m0, .int .u32 m1, .int .u32 m2, .int .u32 m3, .int .u32 m4, .int .u32 m5, .int .u32 m6, .int .u32 m7, .int .u32 m8, .int .u32 m9, .int .u32 m10, .int .u32 m11, .int .u32 m12, .int .u32 m13, .int .u32 m14, .int .u32 m15], .rw⟩,
     some ⟨[.int .u32 x0, .int .u32 x1, .int .u32 x2, .int .u32 x3, .int .u32 x4, .int .u32 x5, .int .u32 x6, .int .u32 x7, .int .u32 x8, .int .u32 x9, .int .u32 x10, .int .u32 x11, .int .u32 x12, .int .u32 x13, .int .u32 x14, .int .u32 x15], .rw⟩, I, _, _] =>
    some (.exit 4, tQ 10, sQ B H O I ⟨m0, m1, m2, m3, m4, m5, m6, m7, m8, m9, m10, m11, m12, m13, m14, m15⟩ (brs ⟨m0, m1, m2, m3, m4, m5, m6, m7, m8, m9, m10, m11, m12, m13, m14, m15⟩ 10 ⟨x0, x1, x2, x3, x4, x5, x6, x7, x8, x9, x10, x11, x12, x13, x14, x15⟩))
  | _ => none) else none⟩
def rpargs (h : V8) (t : Int) (last : Bool) : List Value := [.agg ⟨h.cells⟩, slR 1 64, .int .i64 t, .bool last]
def rpst (B : Nat → Int) : St := [none, some ⟨u8N 64 B, .ro⟩, none, none]
theorem rpressR (h : V8) (B : Nat → Int) (t : Int) : ∀ last : Bool, goNH rpEs hQ 17 Try.f23 (rpargs h t last) (rpst B) = some (.agg ⟨(finR h (brs (words wordA B) 10 (vst h t last))).cells⟩, rpst B)
  | true => by kernel_rfl
  | false => by kernel_rfl
theorem rpressP (h : V8) (B : Nat → Int) (t : Int) : ∀ last : Bool, owes rpEs hQ 17 Try.f23 (rpargs h t last) (rpst B) =
    (RunsP (.loop cQ) (tQ 0) (sQ (some ⟨u8N 64 B, .ro⟩) (some ⟨h.cells, .rw⟩) (some ⟨List.replicate 8 (.int .u32 0), .rw⟩) (some ⟨iv.cells, .rw⟩) (words wordA B) (vst h t last)) (.exit 4) (tQ 10)
      (sQ (some ⟨u8N 64 B, .ro⟩) (some ⟨h.cells, .rw⟩) (some ⟨List.replicate 8 (.int .u32 0), .rw⟩) (some ⟨iv.cells, .rw⟩) (words wordA B) (brs (words wordA B) 10 (vst h t last))) ∧ True)
  | true => by kernel_rfl
  | false => by kernel_rfl
theorem plain_u64 (B : Nat → Int) : plainReg (some ⟨u8N 64 B, .ro⟩) = true := rfl
theorem rpress_ac (h : V8) (B : Nat → Int) (t : Int) (last : Bool) : AC Try.prog 23 (rpargs h t last) (rpst B) (.agg ⟨(comp h (words wordA B) t last).cells⟩) (rpst B) := by
  have := runNH_ok rpEs_ok Try.func23 (by kernel_rfl) (hint := hQ) (n := 17) (a := rpargs h t last) (s := rpst B) (by
    rw [rpressP]
    exact ⟨loopQ (plain_u64 B) rfl rfl rfl _ _, trivial⟩) (rpressR h B t last) rfl rfl rfl
  rw [finR_fin] at this
  exact this
def rpressSpec (args : List Value) (st : St) : Option (Value × St) :=
  match args, st with
  | [.agg ⟨[.int .u32 x0, .int .u32 x1, .int .u32 x2, .int .u32 x3, .int .u32 x4, .int .u32 x5, .int .u32 x6, .int .u32 x7]⟩, .slice (some ⟨1, 0, none⟩) m d, .int .i64 t, .bool last], [none, some ⟨xs, .ro⟩, none, none] => match u8s xs with
    | some b => if m = 64 ∧ d = 64 ∧ b.length = 64 then some (.agg ⟨(comp ⟨x0, x1, x2, x3, x4, x5, x6, x7⟩ (words wordA (fun i => b.getD i 0)) t last).cells⟩, [none, byR b .ro, none, none]) else none
    | none => none
  | _, _ => none
noncomputable def rpressE : Entry := ⟨23, [.val, .sl false, .val, .val], rpressSpec⟩
theorem rpressE_ok : EntryOk Try.prog rpressE := by
  refine ⟨fun a s r s' h => ?_, body_of Try.func23 (by kernel_rfl) (by kernel_rfl)⟩
  simp only [rpressE] at h
  unfold rpressSpec at h
  split at h
  · split at h
    · rename_i x0 x1 x2 x3 x4 x5 x6 x7 m d t last xs _ b hb
      split at h
      · rename_i hc
        obtain ⟨rfl, rfl, hl⟩ := hc
        cases h
        have e : byR b .ro = some ⟨u8N 64 (fun i => b.getD i 0), .ro⟩ := by unfold byR; rw [list_range hl]; rfl
        have e2 : (some ⟨xs, .ro⟩ : Option Reg) = some ⟨u8N 64 (fun i => b.getD i 0), .ro⟩ := by rw [u8s_spec hb]; exact e
        rw [e, e2]
        exact rpress_ac ⟨x0, x1, x2, x3, x4, x5, x6, x7⟩ _ t last
      · cases h
    · cases h
  · cases h
theorem owe_rpress {st : St} {x : Value} {i o len : Nat} {h : V8} {b : List Int} {t : Int} {last : Bool} (hx : Bys st x i o b) (hb : b.length = 64) (hl : st.length = len) :
    effI (callE rpressE.ks rpressE.spec [.agg ⟨h.cells⟩, x, .int .i64 t, .bool last] st) (greads rpressE.ks [.agg ⟨h.cells⟩, x, .int .i64 t, .bool last]) len = some (.agg ⟨(comp h (words wordA (fun i => b.getD i 0)) t last).cells⟩, st, .load [i]) := by
  have hbr : bares rpressE.ks [.agg ⟨h.cells⟩, x, .int .i64 t, .bool last] = false := by simp only [rpressE, bares, hx.bare, Bool.or_false]; rfl
  have hpk : picks 0 rpressE.ks 0 [.agg ⟨h.cells⟩, x, .int .i64 t, .bool last] = some ([.agg ⟨h.cells⟩, slR 1 b.length, .int .i64 t, .bool last], [none, some ⟨i, o, b.length, false⟩, none, none]) := by simp only [rpressE, picks, hx.pick]; rfl
  refine owe_see hbr hpk rfl (gcall_see (sst := [none, byR b .ro, none, none]) hbr hpk (smalls_none (hx.small (smalls_none (smalls_none smalls_nil)))) (by simp [disjFps]) ?_ (by simp) rfl) hl
  rw [hb]
  have e : h.cells = [.int .u32 h.x0, .int .u32 h.x1, .int .u32 h.x2, .int .u32 h.x3, .int .u32 h.x4, .int .u32 h.x5, .int .u32 h.x6, .int .u32 h.x7] := rfl
  simp only [rpressE, rpressSpec, slR, byR, u8s_map, e]
  rw [if_pos ⟨trivial, trivial, hb⟩]
end Go.Proofs.Ytggkdjhgknghcaa.Bl
