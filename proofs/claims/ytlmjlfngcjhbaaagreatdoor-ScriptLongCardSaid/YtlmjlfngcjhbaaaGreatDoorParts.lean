/- Parts of the walk of ScriptLong: a stage's text that has told nothing; a text that is too long; a text of line feeds, counted and split; a new slice of zeros. -/
import Derived.Test.YtlmjlfngcjhbaaaGreatDoorAwake
import Derived.WalkKit
import Derived.ProofKit
import Derived.Lib.SplitLaws
import Derived.Lib.CountLaws
import Derived.Laws.BytesArg
namespace Go.Proofs.YtlmjlfngcjhbaaaGreatDoor.Sl
open Go Go.Am Go.RowKit
def blankStage : List AV := [.nilslice, .nilslice, .int .i64 0, .int .i64 0, .nilptr, .nilptr, .nilslice]
def hStr : AHeap := ⟨9, T.set deep .e 8 (.tab blankStage)⟩
noncomputable def fStr : Option AFrame := AFrame.enter 9 Tryz.f9 [.ptr 8 5] false
noncomputable def fStr' : AFrame := fStr.getD ⟨0, 0, .e, [], [], .run, false, none⟩
theorem fStr_eq : AFrame.enter 9 Tryz.f9 [.ptr 8 5] false = some fStr' := by kernel_rfl
theorem has9 : env.fn.get 9 = some Tryz.f9 := by kernel_rfl
theorem t0 : ((arunF env 9 200 ⟨fStr', [], hStr⟩).map (·.1)) = some (.str []) := by kernel_rfl
theorem hStr8 : hStr.get 8 = .tab blankStage := by kernel_rfl
theorem hStr_dead : ∀ i, i < 8 → hStr.get i = .dead := by
  intro i hi
  obtain rfl | rfl | rfl | rfl | rfl | rfl | rfl | rfl : i = 0 ∨ i = 1 ∨ i = 2 ∨ i = 3 ∨ i = 4 ∨ i = 5 ∨ i = 6 ∨ i = 7 := by omega
  all_goals kernel_rfl
theorem env_gl : env.gl = 8 := by kernel_rfl
/-- A stage's text, of a stage that has told nothing. -/
theorem blank_text (w : World) (b : Nat) (hG : 8 ≤ w.heap.size) (hb : b < w.heap.size)
    (hc : ∀ (k : Nat) (v : AV), blankStage[k]? = some v → ∃ v', conc noRen v = some v' ∧ w.cell? ⟨b, k, none⟩ = some v') :
    Calls Tryz.prog 9 #[.pointer (some ⟨b, 5, none⟩)] w fun e w' => e = .returned (.string ⟨#[]⟩) ∧ Below w.heap.size w w' := by
  have hR := Rel.start1 (w := w) (H := hStr) (G := 8) (b := b) (cs := blankStage) rfl hG hb (by decide) hStr_dead hStr8 hc
  cases hq : arunF env 9 200 ⟨fStr', [], hStr⟩ with
  | none => have := t0; rw [hq] at this; cases this
  | some q =>
    obtain ⟨v, H'⟩ := q
    have ht := t0
    rw [hq] at ht
    simp only [Option.map_some, Option.some.injEq] at ht
    subst ht
    obtain ⟨k, s', a, f⟩ := arunF_run hq
    have c := calls_run (args := [.ptr 8 5]) (args' := [.pointer (some ⟨b, 5, none⟩)]) env_ok (by rw [env_gl]; exact Nat.le_refl _) hR has9 (by simp [concL, conc, ren1]) fStr_eq (fun hst => arun_run env_ok (by rw [env_gl]; exact Nat.le_refl _) a hst) f
    refine c.mono fun e w' h => ?_
    obtain ⟨ρ', v', h1, h2, h3, _⟩ := h
    cases conc_str h2
    exact ⟨h1, h3.frame⟩
end Go.Proofs.YtlmjlfngcjhbaaaGreatDoor.Sl
namespace Go.Proofs.YtlmjlfngcjhbaaaGreatDoor.Sl
open Go Go.RowKit
theorem play_long (s : ByteArray) (w : World) (h : 65536 < s.size) :
    Calls Tryz.prog 4 #[.string s] w fun e w' => e = .returned (.tuple #[.string ByteArray.empty, .int .i64 5]) ∧ Below w.heap.size w w' := by
  go_enter Tryz.func4, Tryz.ntmps4
  go_wp2
  exact bodyPost_ret (results_tmp2 rfl _ _ _) rfl ⟨rfl, Below.refl _ _⟩
end Go.Proofs.YtlmjlfngcjhbaaaGreatDoor.Sl
namespace Go.Proofs.YtlmjlfngcjhbaaaGreatDoor.Sl
open Go
def nl (n : Nat) : ByteArray := ⟨(List.replicate n 10).toArray⟩
theorem nl_size (n : Nat) : (nl n).size = n := by simp [nl, ByteArray.size]
theorem nl_tail (n : Nat) : (nl (n + 1)).extract 1 (nl (n + 1)).size = nl n := by
  rw [nl_size]
  apply ByteArray.ext
  simp [nl, ByteArray.data_extract]
theorem nl_index (n : Nat) : Lib.indexB (nl (n + 1)) ⟨#[10]⟩ = 0 := by
  simp [Lib.indexB, Lib.index, nl, List.replicate_succ]
theorem nl_count : ∀ n, Lib.countB (nl n) ⟨#[10]⟩ = n
  | 0 => by rfl
  | n + 1 => by
    rw [Lib.countB_hit _ _ 0 (by decide) (nl_index n)]
    show 1 + Lib.countB ((nl (n + 1)).extract 1 (nl (n + 1)).size) _ = _
    rw [nl_tail, nl_count n]; omega
theorem nl_split : ∀ n, Lib.splitB ⟨#[10]⟩ 0 n (nl n) = List.replicate (n + 1) ByteArray.empty
  | 0 => by rfl
  | n + 1 => by
    rw [Lib.splitB_hit _ _ _ _ 0 (nl_index n)]
    show (nl (n + 1)).extract 0 0 :: Lib.splitB ⟨#[10]⟩ 0 n ((nl (n + 1)).extract 1 (nl (n + 1)).size) = _
    rw [nl_tail, nl_split n, List.replicate_succ]
    congr 1
end Go.Proofs.YtlmjlfngcjhbaaaGreatDoor.Sl
namespace Go.Proofs.YtlmjlfngcjhbaaaGreatDoor.Sl
open Go Go.Am Go.RowKit
def fill (k : Nat) : Array Value := Array.replicate k (.int .u8 10) ++ Array.replicate (65536 - k) (.int .u8 0)
theorem make_b (w : World) : (Instr.makeSlice 22 (.int .i64 65536) (.int .i64 65536)).run Tryz.prog w = .ok (.slice (some ⟨w.heap.size, 0, none⟩) 65536 65536) (w.alloc (.cells (fill 0) 5)) := by
  have hu : Tryz.prog.underlying 22 = some (.slice 5) := Tryz.underlying22
  have h5 : (env.ty.get 5).map (fun i => (i.size, i.bytes)) = some (1, 1) := by kernel_rfl
  cases hq : env.ty.get 5 with
  | none => rw [hq] at h5; cases h5
  | some y =>
    rw [hq] at h5
    simp only [Option.map_some, Option.some.injEq, Prod.mk.injEq] at h5
    obtain ⟨ti, i1, i2, i3⟩ := env_ok.info hq
    have hz5 : (env.ty.get 5).map (fun i => i.zero) = some (.int .u8 0) := by kernel_rfl
    rw [hq] at hz5
    simp only [Option.map_some, Option.some.injEq] at hz5
    obtain ⟨zv, hz, hzc⟩ := env_ok.zero hq
    have hzv : zv = .int .u8 0 := by
      have := hzc noRen
      rw [hz5] at this
      exact conc_int this
    subst hzv
    simp only [Instr.makeSlice, Sem.run_bind, run_underlying hu, Result.andThen_ok, asInt, asIntOf, Sem.run_pure, typeInfo, run_program, i1, i3, h5.2]
    have w1 : IntKind.i64.wrap 65536 = 65536 := by decide
    simp only [w1]
    rw [if_neg (by decide)]
    simp only [Sem.run_bind, run_askRoom, Result.andThen_ok, env_ok.size hq w, h5.1]
    rw [if_neg (by decide)]
    simp only [Sem.run_bind, hz w, Sem.run_pure, Result.andThen_ok]
    have hzero : ((Array.range ((65536 : Int).toNat * 1)).map fun (i : Nat) => (Value.int .u8 0).cells[i % (Value.int .u8 0).cells.size]!) = fill 0 := by
      apply Array.ext
      · simp [fill]
      · intro i h1 h2
        simp [fill, Value.cells, Nat.mod_one]
    rw [hzero]
    rfl
end Go.Proofs.YtlmjlfngcjhbaaaGreatDoor.Sl
