/- The law's draw, and the document's Draw: calls of them. Without conditions. -/
import Derived.Test.YtobikkgmpcopdaaTpC
namespace Go.Proofs.Ytobikkgmpcopdaa.Tp
open Am Run IntWalk Bl Byt Kd

theorem k32_of {k : List Int} (h : k.length = 32) : k = k32 (fun i => k.getD i 0) := by
  apply List.ext_getElem?
  intro i
  unfold k32
  by_cases hi : i < 32
  · rw [List.getElem?_map, List.getElem?_range hi, getD_get (by omega)]; rfl
  · rw [List.getElem?_eq_none (by omega), List.getElem?_eq_none (by simp; omega)]
def drSpec (F : List Int → Int → V8) (args : List Value) (st : St) : Option (Value × St) :=
  match args, st with
  | [.agg cs, .int .i64 i], [none, none] => match u8s cs.toList with
    | some k => if k.length = 32 then some (ag (F k i), [none, none]) else none
    | none => none
  | _, _ => none
theorem dr_sp {F : List Int → Int → V8} {f : FuncId} (h : ∀ (Z : Nat → Int) (i : Int), AC Try.prog f [kag (k32 Z), .int .i64 i] [none, none] (ag (F (k32 Z) i)) [none, none]) {cs : Array Value} {i : Int} {k : List Int} {r : Value} {s' : St}
    (hk : u8s cs.toList = some k) (hc : k.length = 32) (hh : some (ag (F k i), ([none, none] : St)) = some (r, s')) : AC Try.prog f [.agg cs, .int .i64 i] [none, none] r s' := by
  cases hh
  have h1 := u8s_spec hk
  have e : cs = ⟨k.map (.int .u8)⟩ := by cases cs; simp only at h1; rw [h1]
  have := h (fun i => k.getD i 0) i
  rw [← k32_of hc] at this
  rw [e]
  exact this
theorem dr_ok {F : List Int → Int → V8} {f : FuncId} {fn : Func} (hf : Try.prog.funcs[f]? = some fn) (hn : (fn.name == "runtime.NumGoroutine") = false) (hb : fn.body.isNone = false)
    (h : ∀ (Z : Nat → Int) (i : Int), AC Try.prog f [kag (k32 Z), .int .i64 i] [none, none] (ag (F (k32 Z) i)) [none, none]) : EntryOk Try.prog ⟨f, [.val, .val], drSpec F⟩ := by
  refine ⟨fun a s r s' hh => ?_, body_of hf hn hb⟩
  simp only at hh
  unfold drSpec at hh
  split at hh
  · split at hh
    · rename_i k hk
      split at hh
      · rename_i hc
        exact dr_sp h hk hc hh
      · cases hh
    · cases hh
  · cases hh
noncomputable def drawE : Entry := ⟨19, [.val, .val], drSpec fun k i => dgv wordO (k ++ d8 i)⟩
theorem drawE_ok : EntryOk Try.prog drawE := dr_ok Try.func19 (by kernel_rfl) (by kernel_rfl) draw_ac
noncomputable def rdrawE : Entry := ⟨22, [.val, .val], drSpec fun k i => dgv wordA (k ++ be8 i)⟩
theorem rdrawE_ok : EntryOk Try.prog rdrawE := dr_ok Try.func22 (by kernel_rfl) (by kernel_rfl) rdraw_ac
end Go.Proofs.Ytobikkgmpcopdaa.Tp
