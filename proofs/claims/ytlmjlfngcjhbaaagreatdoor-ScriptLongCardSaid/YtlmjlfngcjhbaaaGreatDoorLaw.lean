/- ScriptLong, for every byte: a text of 65536 line feeds is taken, one of one more byte is not; the card of the law. No condition beyond the row's own list of variables. -/
import Derived.Test.YtlmjlfngcjhbaaaGreatDoorCards
import Derived.Test.YtlmjlfngcjhbaaaGreatDoorTie
import Derived.Test.YtlmjlfngcjhbaaaGreatDoorWalk
import Derived.Test.YtlmjlfngcjhbaaaGreatDoorFacts
import Derived.OpenShut
import Derived.Lay
import Derived.Lib.LaidU8
import Derived.Deep.DeepHandedRow
namespace Go.Proofs.YtlmjlfngcjhbaaaGreatDoor.Sl
open Go Go.ChangeShapes Go.WideShapes Go.ChangeAt Go.RowKit

theorem own : ownKnob Tryz.prog.godebug = none := by kernel_rfl
theorem gPow : Tryz.prog.globalNamed "internal/strconv.uint64pow10" = some 3 := by kernel_rfl
theorem tPow : (Tryz.prog.globals[3]?).map (·.type) = some 316 := by kernel_rfl
theorem cells316 : Tryz.prog.cellsOf 316 = 20 := by kernel_rfl
theorem cells227 : Tryz.prog.cellsOf 227 = 1 := by kernel_rfl
theorem noHandle : (Rows.scriptLongRow.laid.filter fun x => x.2.handleName?.isSome) = [] := by kernel_rfl
def pows : List Int := (List.range 20).map fun i => (10 : Int) ^ i
theorem pows_eq : (Rows.laid_internal_strconv_uint64pow10 : DataW Unit) = Lib.tabData .u64 pows := by kernel_rfl

/-- What the row's list gives: the powers of ten. -/
theorem powCells {W : World} (h : laidMetH Tryz.prog Rows.scriptLongRow.laid W) : ∀ k, k < 20 → W.cell? ⟨3, k, none⟩ = some (.int .u64 (10 ^ k)) := by
  unfold laidMetH at h
  rw [noHandle] at h
  have hr := Lib.laidMet.reads h (n := "internal/strconv.uint64pow10") (d := Rows.laid_internal_strconv_uint64pow10) (by simp [Rows.scriptLongRow])
  rw [pows_eq] at hr
  obtain ⟨g, t, cs, fuel, p, hg, ht, hv, hd⟩ := hr
  obtain rfl := Option.some.inj (gPow.symm.trans hg)
  obtain rfl := Option.some.inj (tPow.symm.trans ht)
  have hcs := Lib.cells_of_tab Tryz.underlying316 Tryz.underlying227 cells227 cells316 hd
  intro k hk
  have hc := World.var?_cell hg hv k
  rw [← Array.getElem?_toList, hcs, List.getElem?_map] at hc
  rw [hc]
  have : pows[k]? = some ((10 : Int) ^ k) := by simp [pows, List.getElem?_map, List.getElem?_range hk]
  rw [this]; rfl

theorem heap8 {W : World} (h : W.ShapedOpen Tryz.prog) : 8 ≤ W.heap.size := by
  have h0 : (((begin Tryz.prog (fun _ _ => 0) default).world.heap[7]?).bind Obj.row?).isSome = true := by kernel_rfl
  obtain ⟨q, hq⟩ := Option.isSome_iff_exists.1 h0
  obtain ⟨cs, hh, _⟩ := h.1 7 q.1 q.2 (of_decide_eq_true (by kernel_rfl)) hq
  have := (Array.getElem?_eq_some_iff.1 hh).1
  omega

set_option maxRecDepth 100000 in
theorem lifted (os : Os) (started : os.Started) (H : Type) (enc : TypeId × Value → H) :
    ReturnsInHanded {} Tryz.checked os 3 .any (fun w args => (Rows.scriptLongSpec.pre enc Tryz.prog Tryz.f3 [] false w args ∧ laidMetH Tryz.prog Rows.scriptLongRow.laid w) ∧ sizedMet enc Tryz.prog Tryz.f3 (OpenSpec.ofChange Rows.scriptLongSpec) false w args)
      (Rows.scriptLongSpec.post enc Tryz.prog Tryz.f3 false true false false) := by
  refine returnsInHanded_of_calls own started (by kernel_rfl)
    (ChangeSpec.witness_shaped (enc := enc) (C := Tryz.checked) (os := os) (X := fun w _ => laidMetH Tryz.prog Rows.scriptLongRow.laid w) false (World.laidAll Tryz.prog os Rows.scriptLongRow.laid) #[.int .u8 0] 8 (World.laidAll_os _ _ _)
      (World.shaped_of_ZipB (by kernel_rfl) (by kernel_rfl)) (by kernel_rfl) (by kernel_rfl) (by kernel_rfl)
      (by unfold laidMetH; rw [noHandle]; exact laidMet_laidAll _ (by kernel_rfl) (by kernel_rfl))) ?_
  intro w tape i _ hsh _ hok hpre hholds
  obtain ⟨_, _, _, fn', hfn', _, _, _, _, hval0⟩ := hok
  have e : fn' = Tryz.f3 := Option.some.inj (hfn'.symm.trans Tryz.func3)
  subst e
  obtain ⟨⟨⟨ds, gs, before, hw, hc⟩, hL0⟩, hz⟩ := hpre
  have hL : laidMetH Tryz.prog Rows.scriptLongRow.laid (w.forCall tape i) := hL0.of_heap (by rfl)
  have hW := DataW.Whole.of_heap (w' := w.forCall tape i) (by rfl) hw
  generalize w.forCall tape i = W at *
  generalize i.args = args at *
  have hval : ∀ (j : Nat) t v, Tryz.f3.params[j]? = some t → args[j]? = some v → Value.okWide Tryz.prog W .any w.heap.size t v := hval0
  have hW' := hW
  obtain ⟨p, q, hA0, hV, rfl, _, _⟩ := hW
  have hA : DataW.TrodAll enc Tryz.prog W 0 (fun _ => true) true Tryz.f3.params.toList args.toList ds p := hA0
  rw [Tryz.params3] at hA hval
  obtain ⟨v0, d0, rfl, rfl, h0⟩ := trodAll_one hA
  obtain ⟨rfl, rfl⟩ := trodVars_none hV
  obtain ⟨x, rfl, rfl, rfl, wx⟩ := open_int Tryz.underlying5 (hval 0 5 v0 rfl rfl) h0
  simp only [List.append_nil] at hW'
  obtain ⟨m, hm⟩ : ∃ m, W.cell? ⟨0, 0, none⟩ = some (.int .i64 m) := Tryz.laysM146.s1_3 W hsh
  refine (scriptLong_walk x m W (heap8 hsh) hm (powCells hL)).mono fun e W' ⟨he, hb⟩ => ?_
  subst he
  have hp : Rows.scriptLongSpec.post enc Tryz.prog Tryz.f3 false true false false W #[.int .u8 x] (.bool true) W' :=
    ⟨_, _, _, [], [], [], hW', trodAll_mk1 (shut_bool Tryz.underlying4 _), trodAll_mk1 (shut_int Tryz.underlying5 wx), rfl, hb.frame _, fun h => by cases h⟩
  exact ChangeSpec.post_blind hp

theorem said : Rows.ScriptLongSaid :=
  OpenClaim.holds_of_wide 3 Tryz.f3 rfl rfl rfl rfl rfl rfl rfl ⟨rfl, rfl, rfl, rfl, rfl⟩ rfl rfl rfl rfl rfl (by as_aux_lemma => kernel_rfl) Tryz.func3 facts
    (of_decide_eq_true (by as_aux_lemma => kernel_rfl)) (by unfold Func.isWrapper; first | (rw [if_pos (by decide +kernel)]; kernel_rfl) | (rw [if_neg (by decide +kernel)]; exact ⟨rfl, rfl⟩))
    (fun os started H enc _ => lifted os started H enc)

/-- ████ THE CARD ████ -/
theorem card : Rows.ScriptLongCardSaid :=
  Claim7.holds_tied_plain_at .later [] _ _ _ _ said (fun _ h => by cases h) (by as_aux_lemma => kernel_rfl) (fun _ h => by cases h) scriptLong_row_tie rfl ⟨rfl, rfl⟩ (by as_aux_lemma => kernel_rfl) rfl
    (fun f fn hf hfn => by
      obtain rfl : f = 3 := Option.some.inj ((show Tryz.prog.funcNamed "watchfire/watchfirelaw23.ScriptLong" = some 3 by kernel_rfl).symm.trans hf) |>.symm
      obtain rfl : fn = Tryz.f3 := (Option.some.inj (Tryz.func3.symm.trans hfn)).symm
      refine ⟨by as_aux_lemma => kernel_rfl, fun j t ht => ?_⟩
      rw [Tryz.params3] at ht
      obtain rfl : t = 5 := by simpa using Array.mem_of_getElem? ht
      exact (show Tryz.prog.wantsStandIn 5 = false by kernel_rfl))
    goesBy
end Go.Proofs.YtlmjlfngcjhbaaaGreatDoor.Sl
namespace Go.Proofs.YtlmjlfngcjhbaaaGreatDoor
theorem scriptLong_card : Rows.ScriptLongCardSaid := Sl.card
#print axioms scriptLong_card
end Go.Proofs.YtlmjlfngcjhbaaaGreatDoor
