/- The laws of kdf: what works() comes to; the laws KdfHmac and KdfExtract. Without conditions. -/
import Derived.Test.YtmpcmefokjlknaaKdB
import Derived.Test.YtmpcmefokjlknaaAny
namespace Go.Proofs.Ytmpcmefokjlknaa.Kd
open Am Run IntWalk Bl Byt

theorem eqInts_self (l : List Int) : eqInts (l.map (.int .u8)) (l.map (.int .u8)) = some true := by
  induction l with
  | nil => rfl
  | cons a r ih => simp only [List.map_cons, eqInts, if_true, ih, beq_self_eq_true, Bool.and_self]
def eqAg (xs ys : List Value) : Option Value := match (match eqInts xs ys with | some b => some b | none => none) with | some b => some (.bool b) | none => none
theorem eqAg_self (l : List Int) : eqAg (l.map (.int .u8)) (l.map (.int .u8)) = some (.bool true) := by unfold eqAg; rw [eqInts_self]
theorem eql_ag0 (g g' : V8) : abin T .eql 24 (ag g) (ag g') = eqAg ((out8 g).map (.int .u8)) ((out8 g').map (.int .u8)) := by kernel_rfl
theorem eql_ag (g : V8) : abin T .eql 24 (ag g) (ag g) = some (.bool true) := by rw [eql_ag0, eqAg_self]
theorem u8_B8 (x : Int) : B8 (IntKind.u8.wrap x) := by
  unfold B8
  have : IntKind.u8.wrap x = x % 256 := by rfl
  rw [this]; omega
theorem out8_B8 (g : V8) : ∀ y ∈ out8 g, B8 y := by
  intro y hy
  unfold out8 at hy
  obtain ⟨w, _, h⟩ := List.mem_flatMap.1 hy
  simp only [bytes4, List.mem_cons, List.not_mem_nil, or_false] at h
  rcases h with rfl | rfl | rfl | rfl <;> exact u8_B8 _
theorem padL_B8 {y : Int} {k b : List Int} (hb : ∀ y ∈ b, B8 y) : ∀ x ∈ padL y k b, B8 x := by
  intro x hx
  rcases List.mem_append.1 hx with h | h
  · obtain ⟨i, _, rfl⟩ := List.mem_map.1 h
    exact u8_B8 _
  · exact hb x h
theorem dgv_B8 {x : List Int} (hx : ∀ y ∈ x, B8 y) : dgv wordO x = dgv wordA x := by
  unfold dgv Dn
  rw [blks_B8 hx, words_B8 fun i => getD_B8 hx _]
theorem hmac_B8 {key b : List Int} (hK : ∀ y ∈ key, B8 y) (hB : ∀ y ∈ b, B8 y) : hmacV wordO key b = hmacV wordA key b := by
  have e : keyF wordO key = keyF wordA key := by unfold keyF; rw [dgv_B8 hK]
  unfold hmacV
  rw [e, dgv_B8 (padL_B8 hB), dgv_B8 (padL_B8 (out8_B8 _))]

/-! works -/
theorem kworks_run : goNy [bsumE, hmacE] 65 Try.f15 true = true := by kernel_rfl
def kworksSpec (args : List Value) (st : St) : Option (Value × St) :=
  match args, st with
  | [], [] => some (.bool true, [])
  | _, _ => none
noncomputable def kworksE : Entry := ⟨15, [], kworksSpec⟩
theorem kworksE_ok : EntryOk Try.prog kworksE := by
  refine ⟨fun a s r s' h => ?_, body_of Try.func15 (by kernel_rfl) (by kernel_rfl)⟩
  simp only [kworksE] at h
  unfold kworksSpec at h
  split at h
  · cases h
    exact runNy_ok (esc bsumE_ok (es1 hmacE_ok)) Try.func15 (by kernel_rfl) kworks_run
  · cases h

/-! KdfHmac, KdfExtract -/
def hLw (p q : Nat) (key b : List Int) (g g' : V8) : Hint := ⟨fun r i => match r, i with
  | 1, 1 => some (.eff (rowR 2 p) (fun s => s ++ [byR key (.row 1)]) [])
  | 1, 3 => some (.eff (rowR 3 q) (fun s => s ++ [byR b (.row 1)]) [])
  | 2, 2 => some (.read (ag g) [2, 3])
  | 2, 5 => some (.read (ag g') [0, 1])
  | 2, 6 => some (.pure (.bool true))
  | 2, 10 => some (.read (.bool true) [2, 0])
  | 2, 15 => some (.read (.bool true) [3, 1])
  | _, _ => none, fun _ => none⟩
def sL (key b : List Int) : St := [byR key .ro, byR b .ro, byR key (.row 1), byR b (.row 1)]
noncomputable def lhEs : List Entry := [copyBytesE, hmacE, rhmacE, eqBytesE, kworksE]
theorem lhEs_ok : ∀ e ∈ lhEs, EntryOk Try.prog e := esc copyBytesE_ok (esc hmacE_ok (esc rhmacE_ok (esc eqBytesE_ok (es1 kworksE_ok))))
noncomputable def lxEs : List Entry := [copyBytesE, extractE, rextractE, eqBytesE, kworksE]
theorem lxEs_ok : ∀ e ∈ lxEs, EntryOk Try.prog e := esc copyBytesE_ok (esc extractE_ok (esc rextractE_ok (esc eqBytesE_ok (es1 kworksE_ok))))
theorem lhR (key b : List Int) (p q : Nat) (g g' : V8) : goNH lhEs (hLw p q key b g g') 0 Try.f3 (aH p q) (sH key b) = some (.bool true, sH key b) := by kernel_rfl
theorem lhP (key b : List Int) (p q : Nat) (g g' : V8) : owes lhEs (hLw p q key b g g') 0 Try.f3 (aH p q) (sH key b) =
    (((none : Option Value) = none ∧ effI (callE copyBytesE.ks copyBytesE.spec [slR 0 p] (sH key b)) (greads copyBytesE.ks [slR 0 p]) 2 = some (rowR 2 p, sH key b ++ [byR key (.row 1)], .eff [] 2)) ∧
     ((none : Option Value) = none ∧ effI (callE copyBytesE.ks copyBytesE.spec [slR 1 q] (sH key b ++ [byR key (.row 1)])) (greads copyBytesE.ks [slR 1 q]) 3 = some (rowR 3 q, sH key b ++ [byR key (.row 1)] ++ [byR b (.row 1)], .eff [] 3)) ∧
     ((none : Option Value) = none ∧ effI (callE [.sl false, .sl false] (h2Spec (hmacV wordO)) [rowR 2 p, rowR 3 q] (sL key b)) (greads [.sl false, .sl false] [rowR 2 p, rowR 3 q]) 4 = some (ag g, sL key b, .load [2, 3])) ∧
     ((none : Option Value) = none ∧ effI (callE [.sl false, .sl false] (h2SpecR (hmacV wordA)) (aH p q) (sL key b)) (greads [.sl false, .sl false] (aH p q)) 4 = some (ag g', sL key b, .load [0, 1])) ∧
     abin T .eql 24 (ag g) (ag g') = some (.bool true) ∧
     ((none : Option Value) = none ∧ effI (callE eqBytesE.ks eqBytesE.spec [rowR 2 p, slR 0 p] (sL key b)) (greads eqBytesE.ks [rowR 2 p, slR 0 p]) 4 = some (.bool true, sL key b, .load [2, 0])) ∧
     ((none : Option Value) = none ∧ effI (callE eqBytesE.ks eqBytesE.spec [rowR 3 q, slR 1 q] (sL key b)) (greads eqBytesE.ks [rowR 3 q, slR 1 q]) 4 = some (.bool true, sL key b, .load [3, 1])) ∧ True) := by kernel_rfl
theorem lawHmac (key b : List Int) (hK : ∀ y ∈ key, B8 y) (hB : ∀ y ∈ b, B8 y) (hk : key.length ≤ 140737488351232) (hb : b.length ≤ 140737488351232) : AC Try.prog 3 (aH key.length b.length) (sH key b) (.bool true) (sH key b) := by
  refine runNH_ok lhEs_ok Try.func3 (by kernel_rfl) ?_ (lhR key b _ _ (hmacV wordO key b) (hmacV wordA key b)) rfl (plH key b) rfl
  rw [lhP]
  refine ⟨⟨rfl, owe_copy (Bys.all rfl) (by omega) rfl⟩, ⟨rfl, owe_copy (Bys.all rfl) (by omega) rfl⟩, ⟨rfl, owe_h2 (Bys.row rfl) (Bys.row rfl) (by omega) (by omega) rfl⟩, ⟨rfl, owe_h2R (Bys.all rfl) (Bys.all rfl) (by omega) (by omega) rfl⟩, ?_,
    ⟨rfl, eq_self (Bys.row rfl) (Bys.all rfl) (by omega) rfl⟩, ⟨rfl, eq_self (Bys.row rfl) (Bys.all rfl) (by omega) rfl⟩, trivial⟩
  rw [hmac_B8 hK hB]
  exact eql_ag _
theorem lxR (key b : List Int) (p q : Nat) (g g' : V8) : goNH lxEs (hLw p q key b g g') 0 Try.f4 (aH p q) (sH key b) = some (.bool true, sH key b) := by kernel_rfl
theorem lxP (key b : List Int) (p q : Nat) (g g' : V8) : owes lxEs (hLw p q key b g g') 0 Try.f4 (aH p q) (sH key b) =
    (((none : Option Value) = none ∧ effI (callE copyBytesE.ks copyBytesE.spec [slR 0 p] (sH key b)) (greads copyBytesE.ks [slR 0 p]) 2 = some (rowR 2 p, sH key b ++ [byR key (.row 1)], .eff [] 2)) ∧
     ((none : Option Value) = none ∧ effI (callE copyBytesE.ks copyBytesE.spec [slR 1 q] (sH key b ++ [byR key (.row 1)])) (greads copyBytesE.ks [slR 1 q]) 3 = some (rowR 3 q, sH key b ++ [byR key (.row 1)] ++ [byR b (.row 1)], .eff [] 3)) ∧
     ((none : Option Value) = none ∧ effI (callE [.sl false, .sl false] (h2Spec (hmacV wordO)) [rowR 2 p, rowR 3 q] (sL key b)) (greads [.sl false, .sl false] [rowR 2 p, rowR 3 q]) 4 = some (ag g, sL key b, .load [2, 3])) ∧
     ((none : Option Value) = none ∧ effI (callE [.sl false, .sl false] (h2SpecR (hmacV wordA)) (aH p q) (sL key b)) (greads [.sl false, .sl false] (aH p q)) 4 = some (ag g', sL key b, .load [0, 1])) ∧
     abin T .eql 24 (ag g) (ag g') = some (.bool true) ∧
     ((none : Option Value) = none ∧ effI (callE eqBytesE.ks eqBytesE.spec [rowR 2 p, slR 0 p] (sL key b)) (greads eqBytesE.ks [rowR 2 p, slR 0 p]) 4 = some (.bool true, sL key b, .load [2, 0])) ∧
     ((none : Option Value) = none ∧ effI (callE eqBytesE.ks eqBytesE.spec [rowR 3 q, slR 1 q] (sL key b)) (greads eqBytesE.ks [rowR 3 q, slR 1 q]) 4 = some (.bool true, sL key b, .load [3, 1])) ∧ True) := by kernel_rfl
theorem lawExtract (key b : List Int) (hK : ∀ y ∈ key, B8 y) (hB : ∀ y ∈ b, B8 y) (hk : key.length ≤ 140737488351232) (hb : b.length ≤ 140737488351232) : AC Try.prog 4 (aH key.length b.length) (sH key b) (.bool true) (sH key b) := by
  refine runNH_ok lxEs_ok Try.func4 (by kernel_rfl) ?_ (lxR key b _ _ (hmacV wordO key b) (hmacV wordA key b)) rfl (plH key b) rfl
  rw [lxP]
  refine ⟨⟨rfl, owe_copy (Bys.all rfl) (by omega) rfl⟩, ⟨rfl, owe_copy (Bys.all rfl) (by omega) rfl⟩, ⟨rfl, owe_h2 (Bys.row rfl) (Bys.row rfl) (by omega) (by omega) rfl⟩, ⟨rfl, owe_h2R (Bys.all rfl) (Bys.all rfl) (by omega) (by omega) rfl⟩, ?_,
    ⟨rfl, eq_self (Bys.row rfl) (Bys.all rfl) (by omega) rfl⟩, ⟨rfl, eq_self (Bys.row rfl) (Bys.all rfl) (by omega) rfl⟩, trivial⟩
  rw [hmac_B8 hK hB]
  exact eql_ag _
end Go.Proofs.Ytmpcmefokjlknaa.Kd
