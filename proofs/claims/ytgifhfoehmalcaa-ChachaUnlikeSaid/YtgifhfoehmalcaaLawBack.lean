/- The laws ChachaBack and ChachaUnlike: the machine's runs of them, of all numbers of 32 bits. -/
import Derived.Test.YtgifhfoehmalcaaChW
namespace Go.Proofs.Ytgifhfoehmalcaa.Ch
open Am Run
noncomputable def rightE : Entry := ⟨24, [.val, .val], goF [] 0 Try.f24⟩
theorem rightE_ok : EntryOk Try.prog rightE := ⟨fun a s r s' h => run_ok es0 Try.func24 (by kernel_rfl) h, body_of Try.func24 (by kernel_rfl) (by kernel_rfl)⟩
def backSpec (args : List Value) (st : St) : Option (Value × St) :=
  match args, st with
  | [.agg ⟨[.int .u32 a, .int .u32 b, .int .u32 c, .int .u32 d]⟩], [none] => some ((bk ⟨a, b, c, d⟩).arr, [none])
  | _, _ => none
theorem back_run (a b c d : Int) : goN [rightE] 0 Try.f15 [.agg ⟨[.int .u32 a, .int .u32 b, .int .u32 c, .int .u32 d]⟩] [none] = some ((bk ⟨a, b, c, d⟩).arr, [none]) := by kernel_rfl
noncomputable def backE : Entry := ⟨15, [.val], backSpec⟩
theorem backE_ok : EntryOk Try.prog backE := by
  refine ⟨fun a s r s' h => ?_, body_of Try.func15 (by kernel_rfl) (by kernel_rfl)⟩
  simp only [backE] at h
  unfold backSpec at h
  split at h
  · cases h
    exact runN_ok (es1 rightE_ok) Try.func15 (by kernel_rfl) (back_run _ _ _ _) rfl rfl rfl
  · cases h

/-- All four numbers, one by one. -/
def eqQ (p q : Q4) : Bool := p.a == q.a && (p.b == q.b && (p.c == q.c && (p.d == q.d && true)))
theorem eqQ_num (v u : V4) : eqQ v.q u.q = true ↔ v = u := by
  unfold eqQ V4.q
  simp only [Bool.and_eq_true, beq_iff_eq, num_inj, and_true]
  constructor
  · rintro ⟨h1, h2, h3, h4⟩; cases v; cases u; simp_all
  · rintro rfl; exact ⟨rfl, rfl, rfl, rfl⟩

def lawBackH : Hint := ⟨fun r i => match r, i with | 1, 6 => some (.pure (.bool true)) | _, _ => none, fun _ => none⟩
noncomputable def lawBackEs : List Entry := [worksE, QuarterE, backE]
theorem lawBack_run (q : Q4) : goNH lawBackEs lawBackH 0 Try.f4 [q.arr] [none] = some (.bool true, [none]) := by
  kernel_rfl
theorem lawBack_owes (q : Q4) : owes lawBackEs lawBackH 0 Try.f4 [q.arr] [none] = (some (Value.bool (eqQ (bk (qr q)) q)) = some (Value.bool true) ∧ True) := by
  kernel_rfl
theorem range4 {a b c d : Int} (ha : 0 ≤ a ∧ a ≤ 4294967295) (hb : 0 ≤ b ∧ b ≤ 4294967295) (hc : 0 ≤ c ∧ c ≤ 4294967295) (hd : 0 ≤ d ∧ d ≤ 4294967295) : ∃ v : V4, (⟨a, b, c, d⟩ : Q4) = v.q := by
  obtain ⟨a, rfl⟩ := of_range ha
  obtain ⟨b, rfl⟩ := of_range hb
  obtain ⟨c, rfl⟩ := of_range hc
  obtain ⟨d, rfl⟩ := of_range hd
  exact ⟨⟨a, b, c, d⟩, rfl⟩
theorem lawBack (a b c d : Int) (ha : 0 ≤ a ∧ a ≤ 4294967295) (hb : 0 ≤ b ∧ b ≤ 4294967295) (hc : 0 ≤ c ∧ c ≤ 4294967295) (hd : 0 ≤ d ∧ d ≤ 4294967295) :
    AC Try.prog 4 [.agg ⟨[.int .u32 a, .int .u32 b, .int .u32 c, .int .u32 d]⟩] [none] (.bool true) [none] := by
  refine runNH_ok (es := lawBackEs) (a := [(⟨a, b, c, d⟩ : Q4).arr]) (esc worksE_ok (esc QuarterE_ok (es1 backE_ok))) Try.func4 (by kernel_rfl) ?_ (lawBack_run ⟨a, b, c, d⟩) rfl rfl rfl
  rw [lawBack_owes]
  obtain ⟨v, hv⟩ := range4 ha hb hc hd
  rw [hv, bk_qr, (eqQ_num v v).2 rfl]
  exact ⟨rfl, trivial⟩

def lawUnlikeH : Hint := ⟨fun r i => match r, i with | 1, 10 => some (.pure (.bool true)) | _, _ => none, fun _ => none⟩
noncomputable def lawUnlikeEs : List Entry := [worksE, QuarterE]
theorem lawUnlike_run (p q : Q4) : goNH lawUnlikeEs lawUnlikeH 0 Try.f5 [p.arr, q.arr] [none, none] = some (.bool true, [none, none]) := by
  kernel_rfl
theorem lawUnlike_owes (p q : Q4) : owes lawUnlikeEs lawUnlikeH 0 Try.f5 [p.arr, q.arr] [none, none] = (some (Value.bool (eqQ (qr p) (qr q) == eqQ p q)) = some (Value.bool true) ∧ True) := by
  kernel_rfl
theorem lawUnlike (a b c d a' b' c' d' : Int) (ha : 0 ≤ a ∧ a ≤ 4294967295) (hb : 0 ≤ b ∧ b ≤ 4294967295) (hc : 0 ≤ c ∧ c ≤ 4294967295) (hd : 0 ≤ d ∧ d ≤ 4294967295)
    (ha' : 0 ≤ a' ∧ a' ≤ 4294967295) (hb' : 0 ≤ b' ∧ b' ≤ 4294967295) (hc' : 0 ≤ c' ∧ c' ≤ 4294967295) (hd' : 0 ≤ d' ∧ d' ≤ 4294967295) :
    AC Try.prog 5 [.agg ⟨[.int .u32 a, .int .u32 b, .int .u32 c, .int .u32 d]⟩, .agg ⟨[.int .u32 a', .int .u32 b', .int .u32 c', .int .u32 d']⟩] [none, none] (.bool true) [none, none] := by
  refine runNH_ok (es := lawUnlikeEs) (a := [(⟨a, b, c, d⟩ : Q4).arr, (⟨a', b', c', d'⟩ : Q4).arr]) (esc worksE_ok (es1 QuarterE_ok)) Try.func5 (by kernel_rfl) ?_ (lawUnlike_run ⟨a, b, c, d⟩ ⟨a', b', c', d'⟩) rfl rfl rfl
  rw [lawUnlike_owes]
  obtain ⟨v, hv⟩ := range4 ha hb hc hd
  obtain ⟨u, hu⟩ := range4 ha' hb' hc' hd'
  rw [hv, hu]
  refine ⟨?_, trivial⟩
  congr 2
  rw [beq_iff_eq, Bool.eq_iff_iff, qr_num, qr_num, eqQ_num, eqQ_num]
  constructor
  · intro h
    have h1 := bk_qr v
    have h2 := bk_qr u
    rw [qr_num, h] at h1
    rw [qr_num] at h2
    exact (eqQ_num v u).1 (by rw [← h1, h2]; exact (eqQ_num u u).2 rfl)
  · rintro rfl; rfl
end Go.Proofs.Ytgifhfoehmalcaa.Ch
