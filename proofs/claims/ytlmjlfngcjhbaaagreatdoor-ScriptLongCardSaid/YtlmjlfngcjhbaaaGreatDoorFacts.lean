/- The closed facts of ScriptLong's row, by the kernel. No condition. -/
import Derived.Test.YtlmjlfngcjhbaaaGreatDoorCards
import Derived.JoinedOf
namespace Go.Proofs.YtlmjlfngcjhbaaaGreatDoor.Sl
open Go
theorem and_mk {a b : Bool} (h : a = true) (k : b = true) : (a && b) = true := by rw [h, k]; rfl
set_option maxRecDepth 100000 in
set_option maxHeartbeats 8000000 in
theorem facts : joinedFacts Tryz.prog 3 Tryz.f3 Rows.scriptLongSpec Rows.scriptLongRow = true := by
  unfold joinedFacts
  repeat' (with_reducible refine and_mk ?_ ?_)
  all_goals as_aux_lemma => kernel_rfl
/-- No function of the program starts a goroutine. -/
theorem noneGoes : Tryz.prog.funcs.toList.all (fun fn : Func => !fn.goes) = true := by kernel_rfl
theorem goes_any {P : Program} (h : P.funcs.toList.all (fun fn : Func => !fn.goes) = true) (f : FuncId) : P.goes f = false := by
  have hall : ∀ (g : Nat) (fn : Func), P.funcs[g]? = some fn → fn.goes = false := fun g fn e => by
    have := List.all_eq_true.1 h fn (List.mem_of_getElem? (by rw [Array.getElem?_toList]; exact e))
    simpa using this
  unfold Program.goes
  have h1 : ((P.closure f).any fun g => (P.funcs[g]?).any Func.goes) = false := by
    rw [List.any_eq_false]
    intro g _
    cases hq : P.funcs[g]? with
    | none => simp
    | some fn => simp [hall g fn hq]
  have h2 : P.funcs.any Func.goes = false := by
    rw [Array.any_eq_false]
    intro i hi
    simp [hall i P.funcs[i] (Array.getElem?_eq_getElem hi)]
  rw [h1, h2]; simp
theorem goesBy : false = Rows.scriptLongRow.goesBy Tryz.prog := by
  unfold OpenClaim.goesBy Program.goesAt Program.goesFrom
  cases hq : Tryz.prog.funcNamed Rows.scriptLongRow.func with
  | none => rfl
  | some f => simp only [Option.any_some, goes_any noneGoes]; rfl

end Go.Proofs.YtlmjlfngcjhbaaaGreatDoor.Sl
