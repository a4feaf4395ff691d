/- 'awake' of the laws of layer 23 answers true, from every world that holds the table of powers of ten. -/
import Derived.Test.YtlmjlfngcjhbaaaGreatDoorSeg8
namespace Go.Proofs.YtlmjlfngcjhbaaaGreatDoor.Sl
open Go Go.Am
theorem env_fn : (ents id env.fn).map (fun q => Tryz.prog.funcs[q.1]?) = (ents id env.fn).map fun q => some q.2 := by kernel_rfl
theorem env_fn2 : ((ents id env.fn).all fun q => !(q.2.name == "runtime.NumGoroutine") && !q.2.body.isNone) = true := by kernel_rfl
theorem env_ty : (ents id env.ty).map (fun q => (Tryz.prog.underlying q.1, (Tryz.prog.info? q.1).map fun i => (i.size, i.bytes, i.zero))) = (ents id env.ty).map fun q => (some q.2.desc, some (q.2.size, q.2.bytes, conc noRen q.2.zero)) := by kernel_rfl
theorem env_ty2 : ((ents id env.ty).all fun q => (conc noRen q.2.zero).isSome) = true := by kernel_rfl
theorem env_lies : (env.lies.all fun q => liesAt Tryz.prog Tryz.prog.depth q.1 (q.2.1 / Tryz.prog.cellsOf q.1) q.2.2.1 q.2.2.2 1) = true := by kernel_rfl
theorem env_mixed : Tryz.prog.follows .mixedOrders = true := by kernel_rfl
theorem ext_ents : ents id env.ext = [(63, .noEscape), (99, .indexByteString), (41, .countString), (269, .mapsClone)] := by kernel_rfl
theorem env_ext : ∀ q ∈ ents id env.ext, ∃ fn : Func, Tryz.prog.funcs[q.1]? = some fn ∧ (fn.name == "runtime.NumGoroutine") = false ∧ fn.body.isNone = true ∧ Extern.findNext fn = none ∧ Extern.find fn = some q.2.entry := by
  rw [ext_ents]
  exact all_cons ⟨Tryz.f63, Tryz.func63, by kernel_rfl, by kernel_rfl, by kernel_rfl, by kernel_rfl⟩ (all_cons ⟨Tryz.f99, Tryz.func99, by kernel_rfl, by kernel_rfl, by kernel_rfl, by kernel_rfl⟩
    (all_cons ⟨Tryz.f41, Tryz.func41, by kernel_rfl, by kernel_rfl, by kernel_rfl, by kernel_rfl⟩ (all_cons ⟨Tryz.f269, Tryz.func269, by kernel_rfl, by kernel_rfl, by kernel_rfl, by kernel_rfl⟩ all_nil)))
theorem env_ok : env.Ok Tryz.prog := .of env_fn env_fn2 env_ty env_ty2 env_ext env_lies env_mixed
end Go.Proofs.YtlmjlfngcjhbaaaGreatDoor.Sl
namespace Go.Proofs.YtlmjlfngcjhbaaaGreatDoor.Sl
open Go Go.Am Go.RowKit
theorem runs : Runs env s0 s9 :=
  .trans (.piece seg0) (.trans (.piece seg1) (.trans (.piece seg2) (.trans (.piece seg3) (.trans (.piece seg4) (.trans (.piece seg5) (.trans (.piece seg6) (.trans (.piece seg7) (.piece seg8))))))))
theorem final : (afinal env 5 s9).map (·.1) = some (.bool true) := by kernel_rfl
theorem entered : AFrame.enter 5 Tryz.f5 [] false = some s0.top := by kernel_rfl
theorem has5 : env.fn.get 5 = some Tryz.f5 := by kernel_rfl
theorem s0_eq : s0 = ⟨s0.top, [], s0.H⟩ := by kernel_rfl
theorem next0 : s0.H.next = 8 := by kernel_rfl
def pow10s : List AV := (List.range 20).map fun i => .int .u64 (10 ^ i)
theorem get3 : s0.H.get 3 = .tab pow10s := by kernel_rfl
theorem get0 : s0.H.get 0 = .dead := by kernel_rfl
theorem get1 : s0.H.get 1 = .dead := by kernel_rfl
theorem get2 : s0.H.get 2 = .dead := by kernel_rfl
theorem get4 : s0.H.get 4 = .dead := by kernel_rfl
theorem get5 : s0.H.get 5 = .dead := by kernel_rfl
theorem get6 : s0.H.get 6 = .dead := by kernel_rfl
theorem get7 : s0.H.get 7 = .dead := by kernel_rfl

/-- 'awake' answers true, from every world that holds the table of powers. -/
theorem awake (w : World) (hG : 8 ≤ w.heap.size) (ht : ∀ k, k < 20 → w.cell? ⟨3, k, none⟩ = some (.int .u64 (10 ^ k))) :
    Calls Tryz.prog 5 #[] w fun e w' => e = .returned (.bool true) ∧ Below w.heap.size w w' := by
  have hR : Rel w.heap.size w 8 (ren0 8) s0.H w := by
    refine Rel.start next0 hG (by rw [next0]; decide) fun i hi => ?_
    obtain rfl | rfl | rfl | rfl | rfl | rfl | rfl | rfl : i = 0 ∨ i = 1 ∨ i = 2 ∨ i = 3 ∨ i = 4 ∨ i = 5 ∨ i = 6 ∨ i = 7 := by omega
    · exact .inl get0
    · exact .inl get1
    · exact .inl get2
    · refine .inr ⟨_, get3, fun k v hk => ?_⟩
      simp only [pow10s, List.getElem?_map] at hk
      rcases Nat.lt_or_ge k 20 with h | h
      · rw [List.getElem?_range h] at hk
        simp only [Option.map_some, Option.some.injEq] at hk
        subst hk
        exact ⟨_, rfl, ht k h⟩
      · rw [List.getElem?_eq_none (by simpa using h)] at hk; cases hk
    · exact .inl get4
    · exact .inl get5
    · exact .inl get6
    · exact .inl get7
  have hr := runs
  rw [s0_eq] at hr
  exact hr.closed env_ok (by decide) hR has5 entered final
end Go.Proofs.YtlmjlfngcjhbaaaGreatDoor.Sl
