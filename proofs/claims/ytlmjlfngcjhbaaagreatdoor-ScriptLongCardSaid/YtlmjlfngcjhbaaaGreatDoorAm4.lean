/- An abstract machine for the model's code: it runs the code on abstract values; what it answers, the model answers. No condition of its own. -/
import Derived.Test.YtlmjlfngcjhbaaaGreatDoorAm3
set_option linter.unusedSimpArgs false
set_option linter.unusedVariables false
set_option linter.unnecessarySimpa false
/- An abstract machine for the model's code, part 23: calls laid aside, results. -/
namespace Go.Am
open Go Go.RowKit

variable {E : Env} {P : Program} {B : Nat} {W : World} {G : Nat} {ρ : Ren} {H : AHeap} {w : World} {base : List Frame}

def resOne (tmps : Array Value) : ResultVar → Sem Value
  | .tmp t => pure (tmps.getD t undef)
  | .cell a t => do loadVar t (← asAddr (tmps.getD a undef))

theorem results_eq (fn : Func) (tmps : Array Value) : results fn tmps = (do
    let vs ← List.toArray <$> fn.results.toList.mapM (resOne tmps)
    pure (if h : vs.size = 1 then vs[0] else .tuple vs)) := by
  unfold results
  rw [← Array.mapM_eq_mapM_toList]
  rfl

theorem aresult_run (hE : E.Ok P) (hR : Rel B W G ρ H w) {nt : Nat} {tm : T AV} {tmps : Array Value} (ht : tmRel ρ nt tm tmps) {r : ResultVar} {v : AV} (h : aresult E H tm r = some v) :
    ∃ v', (resOne tmps r).run P w = .ok v' w ∧ conc ρ v = some v' := by
  cases r with
  | tmp t =>
    obtain ⟨v', a, b⟩ := ht.2 t v h
    exact ⟨v', by simp [resOne, Array.getD_eq_getD_getElem?, b], a⟩
  | cell a t =>
    simp only [aresult] at h
    split at h
    rotate_left
    · cases h
    rename_i p hp
    obtain ⟨p', h1, h2⟩ := ht.2 a p hp
    cases p <;> try (simp [aload] at h)
    rename_i i o
    obtain ⟨l, hl, rfl⟩ := conc_ptr h1
    obtain ⟨v', h3, h4⟩ := loadVar_run (P := P) hE hR h hl
    exact ⟨v', by simp [resOne, Array.getD_eq_getD_getElem?, h2, asAddr, h4], h3⟩

theorem aresults_run (hE : E.Ok P) (hR : Rel B W G ρ H w) {nt : Nat} {tm : T AV} {tmps : Array Value} (ht : tmRel ρ nt tm tmps) : ∀ {rs : List ResultVar} {vs : List AV}, aresults E H tm rs = some vs →
    ∃ vs', (rs.mapM (resOne tmps)).run P w = .ok vs' w ∧ concL ρ vs = some vs'
  | [], vs, h => by cases h; exact ⟨[], by simp, rfl⟩
  | r :: rs, vs, h => by
    simp only [aresults] at h
    split at h
    rotate_left
    · cases h
    rename_i v l h1 h2
    cases h
    obtain ⟨v', a, b⟩ := aresult_run hE hR ht h1
    obtain ⟨l', c, d⟩ := aresults_run hE hR ht h2
    exact ⟨v' :: l', by simp [List.mapM_cons, a, c], concL_cons.2 ⟨_, _, rfl, b, d⟩⟩

theorem results_run (hE : E.Ok P) (hR : Rel B W G ρ H w) {nt : Nat} {tm : T AV} {tmps : Array Value} (ht : tmRel ρ nt tm tmps) {fn : Func} {vs : List AV} (h : aresults E H tm fn.results.toList = some vs) :
    ∃ v', (results fn tmps).run P w = .ok v' w ∧ conc ρ (aone vs) = some v' := by
  obtain ⟨vs', a, b⟩ := aresults_run (P := P) hE hR ht h
  refine ⟨if h : vs'.toArray.size = 1 then vs'.toArray[0] else .tuple vs'.toArray, ?_, ?_⟩
  · rw [results_eq]
    simp [a]
  · have hlen := concL_length b
    cases vs with
    | nil => simp [concL] at b; subst b; simp [aone, conc, concL]
    | cons v l =>
      cases l with
      | nil =>
        obtain ⟨a', b', rfl, h1, h2⟩ := concL_cons.1 b
        simp [concL] at h2; subst h2
        simpa [aone] using h1
      | cons u l =>
        have : vs'.length ≠ 1 := by simp at hlen; omega
        simp [aone, conc, b, this]

/-- Calls laid aside, and the end. -/
theorem unwind_run (hE : E.Ok P) {f : AFrame} {fr : Frame} {R1 R2 : Nat → Prop} (hf : FrRel ρ f fr R1) (hm : f.mode = .returning) {callers : List AFrame} {cs : List Frame} (hcs : StackRel ρ callers cs R2)
    (hd : ∀ r, R1 r → ¬ R2 r) (hR : Rel B W G ρ H w) (hres : ∀ r, R1 r ∨ R2 r → r < H.next ∧ ρ r = none) {st : AState} (h : aunwind E f callers H = some st) : Goes P B W G base ρ fr cs w st := by
  have hfm : fr.mode = .returning := by rw [hf.mode, hm]; rfl
  have htm : tmRel ρ f.nt f.tm fr.tmps ∧ ∀ r, ¬ R1 r := by
    have h7 := hf.todo
    rw [hm] at h7
    cases h7 with
    | returning h hR => exact ⟨h, hR⟩
  have hds := hf.defers
  unfold aunwind at h
  split at h
  · rename_i r ds hdef
    rw [hdef] at hds
    cases hfd : fr.defers with
    | nil => rw [hfd] at hds; exact hds.elim
    | cons d' ds' =>
      rw [hfd] at hds
      obtain ⟨⟨lo, hl, rfl⟩, hds⟩ := hds
      split at h
      rotate_left
      · cases h
      rename_i hg
      cases h
      have ho := hR.obj r lo hl
      rw [hg] at ho
      have ho' : w.heap[lo.b]? = some (.deferred (some [])) := ho
      have hnc : ∀ c e f, (Obj.deferred (some [])) ≠ .cells c e f := fun _ _ _ h => by cases h
      have htk : (Instr.takeDeferred lo.b).run P w = .ok [] (World.setBlk w lo.b (.deferred none)) := by
        simp only [Instr.takeDeferred, Sem.run_bind, run_getObj ho' hnc, Result.andThen_ok, run_setObj ho' hnc, Sem.run_pure]
      refine ⟨{ fr with defers := ds' }, cs, _, ρ, .one (step_lone_go ?_), ⟨hR.setObj hl (by rw [hg]; rfl) (by rw [hg]; rfl) (by rw [hg]; rfl) (by rw [hg]; rfl) (o := .deferred false) (ob := .deferred none) (setBlk_same _ _ _ (hR.at_ r lo hl)), R1, R2, { hf with defers := hds }, hcs, hd, hres⟩, Ren.le_refl _⟩
      simp [stepG, unwind, hfm, hfd, Sem.runT_eq, htk]
  · rename_i d ds hdef
    rw [hdef] at hds
    cases hfd : fr.defers with
    | nil => rw [hfd] at hds; exact hds.elim
    | cons d' ds' =>
      rw [hfd] at hds
      obtain ⟨hd1, hds⟩ := hds
      split at h
      rotate_left
      · cases h
      rename_i g first captured htg
      split at h
      rotate_left
      · cases h
      rename_i x hx
      split at h
      rotate_left
      · cases h
      rename_i f' hff
      cases h
      obtain ⟨fn, fi, ca, args, h1, fi', ca', args', h2, h3, h4, h5, h6⟩ := hd1
      rw [htg] at h1
      cases h1
      have hall := concL_append (concL_append h2 (h5 ▸ h4)) h3
      have hinv : (invoke d'.target d'.args).run P w = .ok (.enter g (fi' ++ args' ++ ca').toArray) w := by
        rw [h6]
        simp only [invoke]
        have := callFunc_enter hE hx (fi'.toArray ++ args'.toArray ++ ca'.toArray) w
        simpa using this
      have hk := step_defer (P := P) (fr := fr) (cs := cs ++ base) (w := w) (d := d') (ds := ds') (fv := .func g) (cap := ca'.toArray) (f := g) (args := (fi' ++ args' ++ ca').toArray) (by rw [hfm]; exact fun h => by cases h) hfd (by rw [h6]) hinv
      refine ⟨_, { fr with defers := ds' } :: cs, w, ρ, .one hk, ⟨hR, _, fun r => R1 r ∨ R2 r, enter_run hE hx hall hff rfl, ⟨R1, R2, { hf with defers := hds }, hcs, hd, fun _ => Iff.rfl⟩, fun r h => h.elim, fun r h => hres r (h.elim (fun h => h.elim) id)⟩, Ren.le_refl _⟩
  · rename_i hdef
    rw [hdef] at hds
    have hfd : fr.defers = [] := by
      cases hq : fr.defers with
      | nil => rfl
      | cons => rw [hq] at hds; exact hds.elim
    split at h
    rotate_left
    · cases h
    rename_i x hx
    split at h
    rotate_left
    · cases h
    rename_i vs hvs
    obtain ⟨v', h1, h2⟩ := results_run (P := P) hE hR htm.1 hvs
    obtain ⟨hfn, _, _⟩ := hE.fn _ x hx
    rw [← hf.fn] at hfn
    obtain ⟨fr', cs', g1, g2⟩ := return_run (base := base) hf.kind hcs hR (fun r hr => hres r (.inr hr)) h2 h
    refine ⟨fr', cs', w, ρ, .one (step_lone_go ?_), g2, Ren.le_refl _⟩
    simp [stepG, unwind, hfm, hfd, hfn, Sem.runT_eq, h1]
    simpa using congrArg GStep.bare g1

/-- Is the operation wanted? -/
theorem guard_run {ops : Array Oper} {ev : Operand → Option AV} {fr : Frame} (hv : ∀ t v, ev (.tmp t) = some v → conc ρ v = some (fr.eval (.tmp t))) {o : Oper} {b : Bool} (h : aguard ops ev o = some b) :
    Region.wanted o (yielded ops fr.tmps) = b := by
  unfold aguard at h
  unfold Region.wanted
  split at h
  · rename_i hg; rw [hg]; cases h; rfl
  · rename_i j want hg
    rw [hg]
    split at h
    rotate_left
    · cases h
    rename_i oj hj
    rw [Array.getElem?_toList] at hj
    split at h
    rotate_left
    · cases h
    rename_i t ht
    split at h
    · rename_i c hc
      cases h
      have h1 := conc_bool (hv t _ hc)
      simp only [Frame.eval, Array.getD_eq_getD_getElem?] at h1
      have h2 : fr.tmps[t]? = some (.bool c) := by
        cases hq : fr.tmps[t]? with
        | none => rw [hq] at h1; simp [undef] at h1
        | some y => rw [hq] at h1; simpa using h1
      simp only [yielded, hj, Option.bind_some, ht, h2]
      cases c <;> cases want <;> rfl
    · rename_i hc
      cases h
      have h1 := hv t _ hc
      simp only [conc, concL, Option.some.injEq, Frame.eval, Array.getD_eq_getD_getElem?] at h1
      simp only [yielded, hj, Option.bind_some, ht]
      cases hq : fr.tmps[t]? with
      | none => rfl
      | some y =>
        rw [hq] at h1
        simp only [Option.getD_some] at h1
        subst h1
        rfl
    · cases h
end Go.Am
/- An abstract machine for the model's code, part 24: one step, but for regions of a drawn order. -/
namespace Go.Am
open Go Go.RowKit

variable {E : Env} {P : Program} {B : Nat} {W : World} {G : Nat} {ρ : Ren} {H : AHeap} {w : World} {base : List Frame}

theorem aeff_defer {ev : Operand → Option AV} {o : Op} {c : Call} (ho : o = .defer c) {nx : ANext} {H' : AHeap} (h : aeff E H ev o = some (nx, H')) : ∃ d, nx = .defer d := by
  subst ho
  simp only [aeff, aread, awrite] at h
  split at h
  · split at h
    · cases h; exact ⟨_, rfl⟩
    · cases h
  · cases h

/-- An operation that acts. -/
theorem op_goes (hE : E.Ok P) (hR : Rel B W G ρ H w) {f : AFrame} {fr : Frame} {R1 R2 : Nat → Prop} (hf : FrRel ρ f fr R1) (hrun : f.mode = .run) {callers : List AFrame} {cs : List Frame} (hcs : StackRel ρ callers cs R2)
    (hd : ∀ r, R1 r → ¬ R2 r) (hres : ∀ r, R1 r ∨ R2 r → r < H.next ∧ ρ r = none) {ev : Operand → Option AV} (hv : Evr ρ ev fr.eval) {o : Oper} {nx : ANext} {H' : AHeap} (he : aeff E H ev o.op = some (nx, H'))
    {st : AState} (ha : aapply E f callers nx H' = some st) {ops : Array Oper} {j : Nat} {rest : List Nat} {k' : List Item} (hft : fr.todo = .inRegion ops (j :: rest) :: k') (hoj : ops[j]? = some o)
    (hw : Region.wanted o (yielded ops fr.tmps) = true) : Goes P B W G base ρ fr cs w st := by
  obtain ⟨fr', cs', w', ρ', g1, g2, g3⟩ := apply_run hE hR hf hrun hcs hd hres (aeff_run hE hR hv he) ha base
  refine ⟨fr', cs', w', ρ', .one (step_lone_go ?_), g2, g3⟩
  have hfm : fr.mode = .run := by rw [hf.mode, hrun]; rfl
  have hself : fr.atR ⟨fr.tmps, fr.defers⟩ (.inRegion ops (j :: rest) :: k') = fr := by
    simp only [Frame.atR]
    rw [← hft, ← hfm]
  have hev : (⟨fr.tmps, fr.defers⟩ : Act).eval = fr.eval := by
    funext x; cases x <;> rfl
  have hsem : o.semAt fr.roundOf fr.eval = execOp fr.eval o := by
    cases hro : fr.roundOf with
    | none => rfl
    | some l =>
      refine Oper.semAt_eq _ _ _ fun c hc => ?_
      obtain ⟨d, rfl⟩ := aeff_defer hc he
      have hr := hf.round
      rw [hro] at hr
      simp only [aapply] at ha
      cases hfr : f.round with
      | none => rw [hfr] at hr; exact hr.elim
      | some _ => rw [hfr] at ha; cases ha
  have := stepGR_op (P := P) (b := fr) (a := ⟨fr.tmps, fr.defers⟩) (k := k') (cs := cs ++ base) (w := w) (rest := rest) hoj hw
  rw [hself, hev, hsem] at this
  rw [this]
  exact g1

/-- An operation that is not wanted. -/
theorem op_skip (hR : Rel B W G ρ H w) {f : AFrame} {fr : Frame} {R1 R2 : Nat → Prop} (hf : FrRel ρ f fr R1) (hrun : f.mode = .run) {callers : List AFrame} {cs : List Frame} (hcs : StackRel ρ callers cs R2)
    (hd : ∀ r, R1 r → ¬ R2 r) (hres : ∀ r, R1 r ∨ R2 r → r < H.next ∧ ρ r = none) {o : Oper}
    {st : AState} (ha : aapply E f callers .skip H = some st) {ops : Array Oper} {j : Nat} {rest : List Nat} {k' : List Item} (hft : fr.todo = .inRegion ops (j :: rest) :: k') (hoj : ops[j]? = some o)
    (hw : Region.wanted o (yielded ops fr.tmps) = false) : Goes P B W G base ρ fr cs w st := by
  have hfm : fr.mode = .run := by rw [hf.mode, hrun]; rfl
  simp only [aapply] at ha
  split at ha
  rotate_left
  · cases ha
  rename_i f' hff
  cases ha
  refine ⟨fr.finish undef, cs, w, ρ, .one (step_lone_go ?_), ⟨hR, R1, R2, finish_run hf hff (by simp [conc, concL, undef]), hcs, hd, hres⟩, Ren.le_refl _⟩
  simp [stepG, stepG.exec, hfm, hft, hoj, hw]

/-- A range over a function begun. -/
theorem enterLoop_run (hE : E.Ok P) (hG : E.gl ≤ G) (hR : Rel B W G ρ H w) {f : AFrame} {fr : Frame} {R1 R2 : Nat → Prop} (hf : FrRel ρ f fr R1) (hrun : f.mode = .run) (ht : tmRel ρ f.nt f.tm fr.tmps) (hR1 : ∀ r, ¬ R1 r)
    {callers : List AFrame} {cs : List Frame} (hcs : StackRel ρ callers cs R2)
    (hd : ∀ r, R1 r → ¬ R2 r) (hres : ∀ r, R1 r ∨ R2 r → r < H.next ∧ ρ r = none) {k : List AItem} {k' : List Item} (hk : ItemsRel ρ k k') {g : Operand} {ps : Array Tmp} {a b : Code}
    (hft : fr.todo = .code (.rangeFunc g ps a b) :: k') {st : AState} (h : aenterLoop E f callers H k g ps a b = some st) : Goes P B W G base ρ fr cs w st := by
  have hfm : fr.mode = .run := by rw [hf.mode, hrun]; rfl
  unfold aenterLoop at h
  rcases bif_some h with ⟨c, h⟩ | ⟨_, h⟩
  rotate_left
  · cases h
  rw [Bool.and_eq_true] at c
  obtain ⟨c1, c2⟩ := c
  split at h
  rotate_left
  · cases h
  rename_i gv hgv
  have hev := aev_run hG hR (fr := fr) ht g gv hgv
  have hro := hf.round
  split at h
  · rename_i hrn
    rw [hrn] at hro
    have hrf : fr.roundOf = none := by
      cases hq : fr.roundOf with
      | none => rfl
      | some _ => rw [hq] at hro; exact hro.elim
    simp only at h
    split at h
    rotate_left
    · cases h
    rename_i nx H3 hcall
    have hr1 : Rel B W G (ρ.put H.next ⟨w.heap.size, 0, 0⟩) (H.push (.deferred true)) (w.alloc (.deferred (some []))) :=
      hR.new (C := 0) (roomy_lt c1) (alloc_new _ _)
    have hl1 := hR.le (Ren.put_ext ρ H.next ⟨w.heap.size, 0, 0⟩)
    have hr2 := hr1.new (C := 0) (ob := .loop { state := .ready, pending := none, fn := fr.fn, tmps := fr.tmps, params := ps, assign := a, body := b, defers := w.heap.size }) (o := .loop .ready none f.fn f.nt f.tm ps a b H.next)
      (roomy_lt c2) (by
        have hle := hr1.le (Ren.put_ext (ρ.put H.next ⟨w.heap.size, 0, 0⟩) (H.push (.deferred true)).next ⟨(w.alloc (.deferred (some []))).heap.size, 0, 0⟩)
        refine ⟨⟨w.heap.size, 0, 0⟩, fr.tmps, hle _ _ (Ren.put_same _ _ _), (ht.mono (Ren.le_trans hl1 hle)).1, (ht.mono (Ren.le_trans hl1 hle)).2, ?_⟩
        rw [alloc_new, hf.fn])
    have hl2 := hr1.le (Ren.put_ext (ρ.put H.next ⟨w.heap.size, 0, 0⟩) (H.push (.deferred true)).next ⟨(w.alloc (.deferred (some []))).heap.size, 0, 0⟩)
    have hle := Ren.le_trans hl1 hl2
    have hyl : conc ((ρ.put H.next ⟨w.heap.size, 0, 0⟩).put (H.push (.deferred true)).next ⟨(w.alloc (.deferred (some []))).heap.size, 0, 0⟩) (.yield (H.next + 1)) = some (.func (.yield (w.heap.size + 1)) #[] #[]) := by
      have : (H.push (.deferred true)).next = H.next + 1 := rfl
      rw [this]
      simp [conc, Ren.put_same, World.size_alloc]
    obtain ⟨fn, first, captured, e1, hstep⟩ := acall_run hE hr2 hcall (conc_mono hle _ _ hev) (args' := [.func (.yield (w.heap.size + 1)) #[] #[]]) (concL_cons.2 ⟨_, _, rfl, hyl, rfl⟩)
    let fr1 : Frame := { fr with todo := .inRangeFunc (w.heap.size + 1) :: k', defers := { target := .collected w.heap.size, args := #[] } :: fr.defers }
    have hf1 : FrRel ((ρ.put H.next ⟨w.heap.size, 0, 0⟩).put (H.push (.deferred true)).next ⟨(w.alloc (.deferred (some []))).heap.size, 0, 0⟩) { f with todo := .inRangeFunc (H.next + 1) :: k, defers := .coll H.next :: f.defers } fr1 R1 := by
      refine { hf.mono hle with defers := ⟨⟨_, hl2 _ _ (Ren.put_same _ _ _), rfl⟩, (hf.mono hle).defers⟩, todo := ?_ }
      show TodoRel _ _ _ _ f.mode _ _ _
      rw [hrun]
      refine .plain (ht.mono hle) ⟨⟨⟨(w.alloc (.deferred (some []))).heap.size, 0, 0⟩, Ren.put_same _ _ _, by simp [World.size_alloc]⟩, hk.mono hle⟩ hR1
    obtain ⟨fr', cs', w', ρ', g1, g2, g3⟩ := apply_run hE hr2 hf1 hrun (hcs.mono hle) hd (fun r hr => by
      obtain ⟨x, y⟩ := hres r hr
      have e1 : (H.push (.deferred true)).next = H.next + 1 := rfl
      refine ⟨by show r < H.next + 1 + 1; omega, ?_⟩
      simp only [Ren.put, e1]
      rw [if_neg (by omega), if_neg (by omega)]
      exact y) (s := do let d ← resolve fr1.eval { callee := .value g, args := #[.const (.func (.yield (w.heap.size + 1)) #[] #[])], argTypes := #[] } 0; invoke d.target d.args) (nx := nx) (H' := H3) (by
        obtain ⟨ρ', w', nx', p, q⟩ := hstep
        refine ⟨ρ', w', nx', ?_, q⟩
        have : fr1.eval g = .func fn first captured := by rw [← e1]; cases g <;> rfl
        simp only [resolve, Sem.run_bind, this, Deferred.ofValue, Sem.run_pure, Result.andThen_ok]
        simpa [Frame.eval] using p) h base
    refine ⟨fr', cs', w', ρ', .one (step_lone_go ?_), g2, Ren.le_trans hle g3⟩
    have hen : (Instr.enterLoop fr.fn fr.tmps ps a b none).run P w = .ok (w.heap.size + 1, [{ target := .collected w.heap.size, args := #[] }]) ((w.alloc (.deferred (some []))).alloc (.loop { state := .ready, pending := none, fn := fr.fn, tmps := fr.tmps, params := ps, assign := a, body := b, defers := w.heap.size })) := by
      simp [Instr.enterLoop, run_newObj_alloc, World.size_alloc]
    rw [← g1]
    simp [stepG, stepG.exec, hfm, hft, hrf, Sem.runT_eq, hen, fr1]
  · rename_i l hrn
    rw [hrn] at hro
    obtain ⟨l', hrf⟩ : ∃ l', fr.roundOf = some l' := by
      cases hq : fr.roundOf with
      | none => rw [hq] at hro; exact hro.elim
      | some x => exact ⟨x, rfl⟩
    rw [hrf] at hro
    obtain ⟨lo, hl, rfl⟩ := hro
    split at h
    rotate_left
    · cases h
    rename_i st0 pend fn0 nt0 tm0 ps0 a0 b0 ds0 hg
    simp only at h
    split at h
    rotate_left
    · cases h
    rename_i nx H3 hcall
    obtain ⟨ld, tmps0, o1, o2, o3⟩ := hR.loopAt hl hg
    have hnc : ∀ c e f, (Obj.loop { state := st0, pending := pend, fn := fn0, tmps := tmps0, params := ps0, assign := a0, body := b0, defers := ld.b }) ≠ .cells c e f := fun _ _ _ h => by cases h
    have hle := hR.le (Ren.put_ext ρ H.next ⟨w.heap.size, 0, 0⟩)
    have hr2 := hR.new (C := 0) (ob := .loop { state := .ready, pending := none, fn := fr.fn, tmps := fr.tmps, params := ps, assign := a, body := b, defers := ld.b }) (o := .loop .ready none f.fn f.nt f.tm ps a b ds0)
      (roomy_lt c1) (by
        refine ⟨ld, fr.tmps, hle _ _ o1, (ht.mono hle).1, (ht.mono hle).2, ?_⟩
        rw [alloc_new, hf.fn])
    have hyl : conc (ρ.put H.next ⟨w.heap.size, 0, 0⟩) (.yield H.next) = some (.func (.yield w.heap.size) #[] #[]) := by
      simp [conc, Ren.put_same]
    obtain ⟨fn, first, captured, e1, hstep⟩ := acall_run hE hr2 hcall (conc_mono hle _ _ hev) (args' := [.func (.yield w.heap.size) #[] #[]]) (concL_cons.2 ⟨_, _, rfl, hyl, rfl⟩)
    let fr1 : Frame := { fr with todo := .inRangeFunc w.heap.size :: k' }
    have hf1 : FrRel (ρ.put H.next ⟨w.heap.size, 0, 0⟩) { f with todo := .inRangeFunc H.next :: k } fr1 R1 := by
      refine { hf.mono hle with todo := ?_ }
      show TodoRel _ _ _ _ f.mode _ _ _
      rw [hrun]
      refine .plain (ht.mono hle) ⟨⟨_, Ren.put_same _ _ _, rfl⟩, hk.mono hle⟩ hR1
    obtain ⟨fr', cs', w', ρ', g1, g2, g3⟩ := apply_run hE hr2 hf1 hrun (hcs.mono hle) hd (fun r hr => by
      obtain ⟨x, y⟩ := hres r hr
      refine ⟨by show r < H.next + 1; omega, ?_⟩
      simp only [Ren.put]
      rw [if_neg (by omega)]
      exact y) (s := do let d ← resolve fr1.eval { callee := .value g, args := #[.const (.func (.yield w.heap.size) #[] #[])], argTypes := #[] } 0; invoke d.target d.args) (nx := nx) (H' := H3) (by
        obtain ⟨ρ', w', nx', p, q⟩ := hstep
        refine ⟨ρ', w', nx', ?_, q⟩
        have : fr1.eval g = .func fn first captured := by rw [← e1]; cases g <;> rfl
        simp only [resolve, Sem.run_bind, this, Deferred.ofValue, Sem.run_pure, Result.andThen_ok]
        simpa [Frame.eval] using p) h base
    refine ⟨fr', cs', w', ρ', .one (step_lone_go ?_), g2, Ren.le_trans hle g3⟩
    have hen : (Instr.enterLoop fr.fn fr.tmps ps a b (some lo.b)).run P w = .ok (w.heap.size, []) (w.alloc (.loop { state := .ready, pending := none, fn := fr.fn, tmps := fr.tmps, params := ps, assign := a, body := b, defers := ld.b })) := by
      simp [Instr.enterLoop, Instr.getLoop, run_getObj o3 hnc, run_newObj_alloc]
    rw [← g1]
    simp [stepG, stepG.exec, hfm, hft, hrf, Sem.runT_eq, hen, fr1]
end Go.Am
/- An abstract machine for the model's code, part 25: what a region of a drawn order is, before it runs. -/
namespace Go.Am
open Go Go.RowKit

theorem bit_lor (a b j : Nat) : (Nat.lor a b).testBit j = (a.testBit j || b.testBit j) := Nat.testBit_or a b j
theorem bit_land (a b j : Nat) : (Nat.land a b).testBit j = (a.testBit j && b.testBit j) := Nat.testBit_and a b j
theorem bit_one (k j : Nat) : (Nat.shiftLeft 1 k).testBit j = decide (k = j) := by
  have : Nat.shiftLeft 1 k = 2 ^ k := Nat.one_shiftLeft k
  rw [this, Nat.testBit_two_pow]

theorem amask_spec {ms : T Nat} {i : Nat} : ∀ {es : List Edge} {m : Nat}, amask ms i es = some m →
    (∀ e ∈ es, Region.binds .any e = true → e.on < i ∧ m.testBit e.on = true) ∧ (∀ j, m.testBit j = true → ∃ e ∈ es, Region.binds .any e = true ∧ (e.on = j ∨ ∃ n, ms.get e.on = some n ∧ n.testBit j = true))
  | [], m, h => by
    cases h
    exact ⟨fun e h => (by cases h), fun j h => (by simp at h)⟩
  | e :: l, m, h => by
    simp only [amask] at h
    split at h
    rotate_left
    · cases h
    rename_i m0 hm0
    obtain ⟨h1, h2⟩ := amask_spec hm0
    rcases bif_some h with ⟨hb, h⟩ | ⟨hb, h⟩
    · split at h
      rotate_left
      · cases h
      rename_i n hn
      rcases bif_some h with ⟨hlt, h⟩ | ⟨_, h⟩
      rotate_left
      · cases h
      cases h
      have hlt := blt_lt hlt
      refine ⟨fun e' he' hb' => ?_, fun j hj => ?_⟩
      · rcases List.mem_cons.1 he' with rfl | he'
        · exact ⟨hlt, by rw [bit_lor, bit_lor, bit_one]; simp⟩
        · obtain ⟨a, b⟩ := h1 e' he' hb'
          exact ⟨a, by rw [bit_lor, b]; simp⟩
      · rw [bit_lor, bit_lor, bit_one] at hj
        rw [Bool.or_eq_true, Bool.or_eq_true] at hj
        rcases hj with (hj | hj) | hj
        · exact ⟨e, List.mem_cons_self .., hb, .inl (by simpa using hj)⟩
        · exact ⟨e, List.mem_cons_self .., hb, .inr ⟨n, hn, hj⟩⟩
        · obtain ⟨e', a, b⟩ := h2 j hj
          exact ⟨e', List.mem_cons_of_mem _ a, b⟩
    · cases h
      refine ⟨fun e' he' hb' => ?_, fun j hj => ?_⟩
      · rcases List.mem_cons.1 he' with rfl | he'
        · rw [hb] at hb'; cases hb'
        · exact h1 e' he' hb'
      · obtain ⟨e', a, b⟩ := h2 j hj
        exact ⟨e', List.mem_cons_of_mem _ a, b⟩

theorem dgo_spec (MS : Nat → Nat) : ∀ {l : List Oper} {i : Nat} {ms : T Nat} {ds : List DOp}, dgo l i ms = some ds → (∀ j n, ms.get j = some n → MS j = n) → (∀ (k : Nat) (d : DOp), ds[k]? = some d → MS (i + k) = d.M) →
    ds.length = l.length ∧ ∀ (k : Nat) (d : DOp), ds[k]? = some d → d.i = i + k ∧ l[k]? = some d.o ∧ (∀ e ∈ d.o.after, Region.binds .any e = true → e.on < i + k ∧ d.M.testBit e.on = true) ∧
      (∀ j, d.M.testBit j = true → ∃ e ∈ d.o.after, Region.binds .any e = true ∧ (e.on = j ∨ (MS e.on).testBit j = true))
  | [], i, ms, ds, h, _, _ => by cases h; exact ⟨rfl, fun k d hk => by simp at hk⟩
  | o :: l, i, ms, ds, h, hms, hMS => by
    simp only [dgo] at h
    rcases bif_some h with ⟨hb, h⟩ | ⟨_, h⟩
    rotate_left
    · cases h
    have hb := blt_lt hb
    split at h
    rotate_left
    · cases h
    rename_i m hm
    split at h
    rotate_left
    · cases h
    rename_i ds' hds
    cases h
    have h0 : MS i = m := hMS 0 ⟨i, o, m⟩ rfl
    obtain ⟨g1, g2⟩ := dgo_spec MS hds (fun j n hj => by
      by_cases hji : j = i
      · subst hji
        rw [T.get_set_same deep ms j m (by have : deep = 24 := rfl; rw [this]; omega)] at hj
        cases hj; exact h0
      · rw [T.get_set_ne _ _ _ _ _ hji] at hj
        exact hms j n hj) (fun k d hk => by have := hMS (k + 1) d (by simpa using hk); rw [← this]; congr 1; omega)
    obtain ⟨a1, a2⟩ := amask_spec hm
    refine ⟨by simp [g1], fun k d hk => ?_⟩
    cases k with
    | zero =>
      cases hk
      refine ⟨rfl, rfl, fun e he hb => a1 e (Array.mem_toList_iff.2 he) hb, fun j hj => ?_⟩
      obtain ⟨e, x1, x2, x3⟩ := a2 j hj
      refine ⟨e, Array.mem_toList_iff.1 x1, x2, x3.imp id fun ⟨n, y1, y2⟩ => ?_⟩
      rw [hms _ _ y1]; exact y2
    | succ k =>
      obtain ⟨x1, x2, x3, x4⟩ := g2 k d (by simpa using hk)
      exact ⟨by omega, by simpa using x2, fun e he hb => (by obtain ⟨p, q⟩ := x3 e he hb; exact ⟨by omega, q⟩), x4⟩

theorem writers_spec : ∀ {ds : List DOp} {t wt : T Nat}, writers ds t = some wt → (∀ k v, t.get k = some v → wt.get k = some v) ∧ ∀ d ∈ ds, ∀ k, d.o.dst = some k → wt.get k = some d.i
  | [], t, wt, h => by cases h; exact ⟨fun _ _ h => h, fun d h => by cases h⟩
  | d :: l, t, wt, h => by
    simp only [writers] at h
    split at h
    · rename_i hd
      obtain ⟨a, b⟩ := writers_spec h
      refine ⟨a, fun d' hd' k hk => ?_⟩
      rcases List.mem_cons.1 hd' with rfl | hd'
      · rw [hd] at hk; cases hk
      · exact b d' hd' k hk
    · rename_i p hd
      split at h
      rotate_left
      · cases h
      rename_i hn
      rcases bif_some h with ⟨hb, h⟩ | ⟨_, h⟩
      rotate_left
      · cases h
      have hb := blt_lt hb
      obtain ⟨a, b⟩ := writers_spec h
      refine ⟨fun k v hk => a k v ?_, fun d' hd' k hk => ?_⟩
      · rw [T.get_set_ne _ _ _ _ _ (fun hkp => by subst hkp; rw [hn] at hk; cases hk)]
        exact hk
      · rcases List.mem_cons.1 hd' with rfl | hd'
        · rw [hd] at hk; cases hk
          exact a _ _ (T.get_set_same deep t _ _ (by have : deep = 24 := rfl; rw [this]; omega))
        · exact b d' hd' k hk

/-- The start. -/
theorem DInv.start {ρ : Ren} {ops : Array Oper} {ds : List DOp} {wt : T Nat} (h1 : dgo ops.toList 0 .e = some ds) (h2 : writers ds .e = some wt) {nt : Nat} {tm : T AV} {tmps : Array Value} (ht : tmRel ρ nt tm tmps) (t : Nat) :
    DRel ρ ops wt ds 0 [] tm tmps none (Region.linearise .any ops t) (fun _ => False) := by
  let MS : Nat → Nat := fun i => ((ds[i]?).map (·.M)).getD 0
  obtain ⟨g1, g2⟩ := dgo_spec MS h1 (fun j n h => (by cases h)) (fun k d hk => by simp only [MS, Nat.zero_add, hk]; rfl)
  have hall : ∀ i o, ops[i]? = some o → ∃ d, ds[i]? = some d ∧ d.o = o ∧ d.i = i ∧ d.M = MS i := by
    intro i o hi
    have hlt : i < ds.length := by
      rw [g1, Array.length_toList]
      rcases Nat.lt_or_ge i ops.size with h | h
      · exact h
      · rw [Array.getElem?_eq_none h] at hi; cases hi
    obtain ⟨x1, x2, _⟩ := g2 i ds[i] (List.getElem?_eq_getElem hlt)
    refine ⟨ds[i], List.getElem?_eq_getElem hlt, ?_, by omega, by simp only [MS, List.getElem?_eq_getElem hlt]; rfl⟩
    rw [Array.getElem?_toList, hi] at x2
    exact (Option.some.inj x2).symm
  have hidx : ∀ d ∈ ds, ops[d.i]? = some d.o ∧ d.M = MS d.i := by
    intro d hd
    obtain ⟨k, hk⟩ := List.getElem?_of_mem hd
    obtain ⟨x1, x2, _⟩ := g2 k d hk
    have hki : d.i = k := by omega
    rw [hki]
    exact ⟨by rw [Array.getElem?_toList] at x2; exact x2, by simp only [MS, hk]; rfl⟩
  have hrep : ∀ i : Nat, (Array.replicate ops.size false)[i]? = some true → False := by
    intro i h
    rw [Array.getElem?_replicate] at h
    split at h <;> simp at h
  refine ⟨MS, Array.replicate ops.size false, ?_⟩
  refine ⟨⟨fun i o hi e he hb => ?_, fun i o hi j hj => ?_⟩, fun i o k hi hk => ?_, Lin.start ops t, by simp, fun i h => (hrep i h).elim, fun i h => (hrep i h).elim,
    fun i _ h => (by simp at h), fun p h => (by cases h), fun i hi _ => ?_, fun d hd => ?_, ?_, fun k v e _ => ht.2 k v e, fun k v e => ?_, fun p h => (by cases h), fun p h => (by cases h)⟩
  · obtain ⟨d, a, rfl, c, dM⟩ := hall i o hi
    obtain ⟨_, _, x3, _⟩ := g2 i d a
    obtain ⟨y1, y2⟩ := x3 e he hb
    exact ⟨by omega, by rw [← dM]; exact y2⟩
  · obtain ⟨d, a, rfl, c, dM⟩ := hall i o hi
    obtain ⟨_, _, _, x4⟩ := g2 i d a
    rw [← dM] at hj
    exact x4 j hj
  · obtain ⟨d, a, rfl, c, dM⟩ := hall i o hi
    have := (writers_spec h2).2 d (List.mem_of_getElem? a) k hk
    rw [this, c]
  · obtain ⟨d, a, b, c, dM⟩ := hall i ops[i] (Array.getElem?_eq_getElem hi)
    exact ⟨d, List.mem_of_getElem? a, c⟩
  · exact ⟨(hidx d hd).1, (hidx d hd).2, by simp⟩
  · rw [List.pairwise_iff_getElem]
    intro i j hi hj hij
    have a := (g2 i ds[i] (List.getElem?_eq_getElem hi)).1
    have b := (g2 j ds[j] (List.getElem?_eq_getElem hj)).1
    omega
  · obtain ⟨v', _, h⟩ := ht.2 k v e
    rcases Nat.lt_or_ge k tmps.size with h' | h'
    · exact h'
    · rw [Array.getElem?_eq_none h'] at h; cases h
end Go.Am
/- An abstract machine for the model's code, part 26: operations that may be done late. -/
namespace Go.Am
open Go Go.RowKit

variable {E : Env} {P : Program} {B : Nat} {W : World} {G : Nat} {ρ : Ren} {H : AHeap} {w : World} {base : List Frame}

mutual
theorem sameV_eq : ∀ {a b : AV}, sameV a b = true → a = b
  | .bool a, b, h => by cases b <;> simp [sameV] at h; subst h; rfl
  | .int k a, b, h => by cases b <;> simp [sameV] at h; obtain ⟨rfl, rfl⟩ := h; rfl
  | .str a, b, h => by cases b <;> simp [sameV] at h; subst h; rfl
  | .nilptr, b, h => by cases b <;> simp [sameV] at h; rfl
  | .ptr i o, b, h => by cases b <;> simp [sameV] at h; obtain ⟨rfl, rfl⟩ := h; rfl
  | .nilslice, b, h => by cases b <;> simp [sameV] at h; rfl
  | .slice i o n c, b, h => by
    cases b <;> simp only [sameV] at h <;> try cases h
    rename_i j p m d
    simp only [Bool.and_eq_true, Nat.beq_eq] at h
    obtain ⟨⟨⟨rfl, rfl⟩, rfl⟩, h⟩ := h
    cases c <;> cases d <;> simp at h <;> subst h <;> rfl
  | .sl0 i o p n, b, h => by cases b <;> simp [sameV] at h; obtain ⟨⟨⟨rfl, rfl⟩, rfl⟩, rfl⟩ := h; rfl
  | .nilmap, b, h => by cases b <;> simp [sameV] at h; rfl
  | .map i, b, h => by cases b <;> simp [sameV] at h; subst h; rfl
  | .func fn x y, b, h => by
    cases fn with
    | func f =>
      cases b with
      | func fn' x' y' =>
        cases fn' <;> simp [sameV] at h
        obtain ⟨⟨rfl, h1⟩, h2⟩ := h
        rw [sameL_eq h1, sameL_eq h2]
      | _ => simp [sameV] at h
    | method n => cases b <;> simp [sameV] at h
    | methodOf t n => cases b <;> simp [sameV] at h
    | via t p f q => cases b <;> simp [sameV] at h
    | yield l => cases b <;> simp [sameV] at h
  | .yield i, b, h => by cases b <;> simp [sameV] at h; subst h; rfl
  | .nilfunc, b, h => by cases b <;> simp [sameV] at h; rfl
  | .iface t v, b, h => by
    cases b <;> simp only [sameV] at h <;> try cases h
    simp only [Bool.and_eq_true, Nat.beq_eq] at h
    obtain ⟨rfl, h1⟩ := h
    rw [sameV_eq h1]
  | .niliface, b, h => by cases b <;> simp [sameV] at h; rfl
  | .agg a, b, h => by
    cases b <;> simp only [sameV] at h <;> try cases h
    rw [sameL_eq h]
  | .tuple a, b, h => by
    cases b <;> simp only [sameV] at h <;> try cases h
    rw [sameL_eq h]
theorem sameL_eq : ∀ {a b : List AV}, sameL a b = true → a = b
  | [], [], _ => rfl
  | a :: l, b :: m, h => by
    simp only [sameL, Bool.and_eq_true] at h
    rw [sameV_eq h.1, sameL_eq h.2]
  | [], _ :: _, h => by cases h
  | _ :: _, [], h => by cases h
end

theorem sameObj_eq {a b : AObj} (h : sameObj a b = true) : a = b := by
  unfold sameObj at h
  split at h
  · rename_i cs t cs' t'
    simp only [Bool.and_eq_true, Nat.beq_eq] at h
    obtain ⟨rfl, h⟩ := h
    rw [sameL_eq h]
  · rfl
  · cases h

theorem row_obj {cs : List AV} {vs : List Value} (hc : concL ρ cs = some vs) (t : Nat) (w : World) (ρ' : Ren) (hle : ρ.le ρ') :
    objRel ρ' (w.alloc (.cells vs.toArray t)) ⟨w.heap.size, 0, 0⟩ (.row cs t 0 0 false false true false []) := by
  have hlen := concL_length hc
  refine ⟨vs.toArray, (0, 0), alloc_new w _, by simp; omega, by simp, fun k v e => ?_, fun k a b => alloc_frozen w _ _ _, fun k => (by cases k), fun _ => ⟨rfl, by simp [hlen]⟩, fun _ => .inl rfl⟩
  obtain ⟨v', a, b⟩ := concL_get hc k v e
  exact ⟨v', conc_mono hle _ _ b, by simpa using a⟩

/-- A block that an operation makes: what it says of the world behind it. -/
theorem amk_run (hE : E.Ok P) {ev : Operand → Option AV} {cev : Operand → Value} (hv : Evr ρ ev cev) {o : Oper} {k : MkV} {ob : AObj} (h : amk E ev o.op = some (k, ob)) (w : World) :
    ∃ (vo : Obj) (v' : Value), (execOp cev o).run P w = .ok (.value v') (w.alloc vo) ∧ (∀ ρ', ρ.le ρ' → objRel ρ' (w.alloc vo) ⟨w.heap.size, 0, 0⟩ ob) ∧
      ∀ (ρ' : Ren) (r : Nat), ρ' r = some ⟨w.heap.size, 0, 0⟩ → conc ρ' (kval k r) = some v' := by
  cases hop : o.op <;> rw [hop] at h <;> simp only [amk] at h <;> try cases h
  case makeMap t r =>
    cases r with
    | some x => cases h
    | none =>
      cases h
      refine ⟨.map #[] 0, .map (some w.heap.size), ?_, fun ρ' _ => ⟨#[], alloc_new _ _, rfl, fun k e he => by simp at he⟩, fun ρ' r hr => by simp [kval, conc, hr]⟩
      simp only [execOp, hop]
      refine run_v ?_
      simp [Instr.makeMap]
  case alloc t =>
    split at h
    rotate_left
    · cases h
    rename_i i hi
    cases h
    obtain ⟨zv, z1, z2⟩ := hE.zero hi
    refine ⟨.cells zv.cells.toList.toArray t, .pointer (some ⟨w.heap.size, 0, none⟩), ?_, row_obj (conc_cells (z2 ρ)) _ w, fun ρ' r hr => by simp [kval, conc, hr]⟩
    simp only [execOp, hop]
    refine run_v ?_
    simp [Instr.alloc, z1]
    rfl
  case box t x =>
    split at h
    rotate_left
    · cases h
    rename_i u hu
    cases h
    refine ⟨.cells (cev x).cells.toList.toArray t, .pointer (some ⟨w.heap.size, 0, none⟩), ?_, row_obj (conc_cells (hv x _ hu)) _ w, fun ρ' r hr => by simp [kval, conc, hr]⟩
    simp only [execOp, hop]
    refine run_v ?_
    simp [Instr.box]
    rfl
  case buildSlice t len parts =>
    split at h
    rotate_left
    · cases h
    rename_i cs e0 hb
    cases h
    unfold abs at hb
    split at hb
    rotate_left
    · cases hb
    rename_i x ps ht hps
    have hu := (hE.ty t x ht).1
    obtain ⟨p1, p2⟩ := aparts_conc hv hps
    have hmap : (parts.map fun (q : Nat × Operand) => (q.1, cev q.2)).toList = parts.toList.map fun (q : Nat × Operand) => (q.1, cev q.2) := by simp
    split at hb
    rotate_left
    · cases hb
    rename_i e hd
    rw [hd] at hu
    split at hb
    rotate_left
    · cases hb
    rename_i y hy
    obtain ⟨zv, hz, hzc⟩ := hE.zero hy
    rcases bif_some hb with ⟨c, h2⟩ | ⟨_, h2⟩
    rotate_left
    · cases h2
    simp only [Bool.and_eq_true] at c
    obtain ⟨c2, c3⟩ := c
    have c2 := ble_le c2
    have c3 := Nat.eq_of_beq_eq_true c3
    split at h2
    rotate_left
    · cases h2
    rename_i cs' hf
    cases h2
    have hzl := concL_length (conc_cells (hzc ρ))
    simp only [Array.length_toList] at hzl
    have hzs : zv.cells.size = y.size := by omega
    obtain ⟨out', f1, f2⟩ := afill_run hf (azeros_conc (conc_cells (hzc ρ)) len) (parts' := parts.toList.map fun (q : Nat × Operand) => (q.1, cev q.2)) (by simp [p1]) p2
    refine ⟨.cells out'.toList.toArray _, .slice (some ⟨w.heap.size, 0, none⟩) len len, ?_, row_obj f2 _ w, fun ρ' r hr => by simp [kval, conc, hr, ACap.conc]⟩
    simp only [execOp, hop]
    refine run_v ?_
    simp only [Instr.buildSlice, Sem.run_bind, run_underlying hu, Result.andThen_ok, hE.size hy w]
    rw [if_neg (by omega), Array.toArray_toList]
    by_cases h0 : len * y.size = 0
    · rw [if_pos h0]
      have hzero : ((Array.range (len * y.size)).map fun (i : Nat) => (#[] : Array Value)[i % (#[] : Array Value).size]!) = ((List.replicate len zv.cells.toList).flatten).toArray := by
        rw [h0, ← range_zero, hzs, h0]; simp
      simp only [Sem.run_bind, Sem.run_pure, Result.andThen_ok]
      rw [hzero, hmap, f1]
      rfl
    · rw [if_neg h0]
      simp only [Sem.run_bind, hz w, Sem.run_pure, Result.andThen_ok]
      have hzero : ((Array.range (len * y.size)).map fun (i : Nat) => zv.cells[i % zv.cells.size]!) = ((List.replicate len zv.cells.toList).flatten).toArray := by
        rw [← range_zero, hzs]
      rw [hzero, hmap, f1]
      rfl

/-- A name kept free for a block that will be made. -/
theorem Rel.reserve (h : Rel B W G ρ H w) (hr : H.roomy = true) (o : AObj) : Rel B W G ρ (H.push o) w := by
  have hg : ∀ j l, ρ j = some l → (H.push o).get j = H.get j := fun j l hj => AHeap.get_push_old _ _ (by have := h.lt j l hj; omega)
  refine ⟨h.frame, fun i l hi => by rw [hg i l hi]; exact h.obj i l hi, fun i l hi => Nat.lt_succ_of_lt (h.lt i l hi), h.at_, fun i l hi hb => by rw [hg i l hi]; exact h.old i l hi hb, ?_, h.glob, h.fits, roomy_lt hr⟩
  intro a b la lb ha hb hab heq hlva hlvb
  unfold Apart
  rw [hg a la ha] at hlva ⊢
  rw [hg b lb hb] at hlvb ⊢
  exact h.sep a b la lb ha hb hab heq hlva hlvb

/-- A block made late, under the name that was kept for it. -/
theorem Rel.born (h : Rel B W G ρ H w) {r : Nat} (hr : r < H.next) (hn : ρ r = none) {vo : Obj} (ho : ∀ ρ', ρ.le ρ' → objRel ρ' (w.alloc vo) ⟨w.heap.size, 0, 0⟩ (H.get r)) :
    Rel B W G (ρ.put r ⟨w.heap.size, 0, 0⟩) H (w.alloc vo) := by
  have hle : ρ.le (ρ.put r ⟨w.heap.size, 0, 0⟩) := fun j m hj => by
    simp only [Ren.put]; rw [if_neg (fun e => by subst e; rw [hn] at hj; cases hj)]; exact hj
  have hcase : ∀ j m, (ρ.put r ⟨w.heap.size, 0, 0⟩) j = some m → (j = r ∧ m = ⟨w.heap.size, 0, 0⟩) ∨ (ρ j = some m ∧ j ≠ r) := by
    intro j m hj
    simp only [Ren.put] at hj
    split at hj
    · rename_i e; exact .inl ⟨e, by cases hj; rfl⟩
    · rename_i e; exact .inr ⟨hj, e⟩
  have hblk : ∀ k, k < w.heap.size → (w.alloc vo).heap[k]? = w.heap[k]? := fun k hk => Below.heap_alloc w _ k hk
  refine ⟨h.frame.alloc h.size _, ?_, ?_, ?_, ?_, ?_, ?_, h.fits, h.room⟩
  · intro j m hj
    rcases hcase j m hj with ⟨rfl, rfl⟩ | ⟨hj', hne⟩
    · exact ho _ hle
    · exact objRel_same hle (hblk _ (h.at_ j m hj')) (h.obj j m hj')
  · intro j m hj
    rcases hcase j m hj with ⟨rfl, _⟩ | ⟨hj', _⟩
    · exact hr
    · exact h.lt j m hj'
  · intro j m hj
    rw [World.size_alloc]
    rcases hcase j m hj with ⟨_, rfl⟩ | ⟨hj', _⟩
    · exact Nat.lt_succ_self _
    · exact Nat.lt_succ_of_lt (h.at_ j m hj')
  · intro j m hj hlt
    rcases hcase j m hj with ⟨_, rfl⟩ | ⟨hj', hne⟩
    · have := h.size; exact absurd hlt (by show ¬ w.heap.size < B; omega)
    · exact h.old j m hj' hlt
  · intro a b la lb ha hb hab heq hlva hlvb
    rcases hcase a la ha with ⟨rfl, rfl⟩ | ⟨ha', hna⟩
    · rcases hcase b lb hb with ⟨rfl, _⟩ | ⟨hb', _⟩
      · exact absurd rfl hab
      · have := h.at_ b lb hb'; simp at heq; omega
    · rcases hcase b lb hb with ⟨rfl, rfl⟩ | ⟨hb', hnb⟩
      · have := h.at_ a la ha'; simp at heq; omega
      · exact h.sep a b la lb ha' hb' hab heq hlva hlvb
  · intro g hg
    obtain ⟨C', e⟩ := h.glob g hg
    exact ⟨C', hle _ _ e⟩
end Go.Am
/- An abstract machine for the model's code, part 27: a region of a drawn order. -/
namespace Go.Am
open Go Go.RowKit

variable {E : Env} {P : Program} {B : Nat} {W : World} {G : Nat} {ρ : Ren} {H : AHeap} {w : World} {base : List Frame}

/-- What is known of a temporary behind a write. -/
theorem aput_get {nt : Nat} (hnt : nt + 1 < 2 ^ deep) {tm : T AV} {dst : Option Tmp} {v u : AV} {t : Tmp} (h : (aput nt tm dst v).get t = some u) :
    (dst = some t ∧ u = v ∧ t < nt) ∨ (dst ≠ some t ∧ tm.get t = some u) := by
  cases dst with
  | none => exact .inr ⟨fun h => (by cases h), h⟩
  | some p =>
    simp only [aput] at h
    cases hp : Nat.blt p nt with
    | true =>
      rw [hp] at h
      have hlt := blt_lt hp
      simp only [cond_true] at h
      by_cases ht : t = p
      · subst ht
        rw [T.get_set_same deep tm t v (by omega)] at h
        cases h
        exact .inl ⟨rfl, rfl, hlt⟩
      · rw [T.get_set_ne _ _ _ _ _ ht] at h
        exact .inr ⟨fun e => ht (by cases e; rfl), h⟩
    | false => rw [hp] at h; cases h

/-- One more that is done here. -/
theorem DInv.take {ops : Array Oper} {wt : T Nat} {pre l : List DOp} {d : DOp} {L : Nat} {pend : List Pend} {tm : T AV} {tmps : Array Value} {rest : List Nat} {R : Nat → Prop} {ms : Nat → Nat} {S : Array Bool}
    (h : DInv ρ ops wt (pre ++ d :: l) L pend tm tmps none rest R ms S) {nt : Nat} (hnt : nt + 1 < 2 ^ deep) (hs : tmps.size = nt) (v : AV) (r : Nat) (born : Bool) (hr : born = true → ¬ R r) :
    DInv ρ ops wt (pre ++ l) (Nat.lor L (Nat.shiftLeft 1 d.i)) (⟨d, r, born⟩ :: pend) (aput nt tm d.o.dst v) tmps none rest (fun q => R q ∨ (born = true ∧ q = r)) ms S := by
  have hdm : d ∈ pre ++ d :: l := by simp
  obtain ⟨d1, d2, d3⟩ := h.hleft2 d hdm
  have hbit : ∀ j, (Nat.lor L (Nat.shiftLeft 1 d.i)).testBit j = (L.testBit j || decide (d.i = j)) := fun j => by rw [bit_lor, bit_one]
  have hSd : S[d.i]? = some true → False := fun hc => by have := h.hsub d.i hc; rw [d3] at this; cases this
  have hsorted := h.hsorted
  rw [List.pairwise_append] at hsorted
  obtain ⟨s1, s2, s3⟩ := hsorted
  rw [List.pairwise_cons] at s2
  have hne : ∀ d' ∈ pre ++ l, d'.i ≠ d.i := by
    intro d' hd'
    rcases List.mem_append.1 hd' with h' | h'
    · have := s3 d' h' d (List.mem_cons_self ..); omega
    · have := s2.1 d' h'; omega
  have hsub : ∀ d' ∈ pre ++ l, d' ∈ pre ++ d :: l := fun d' hd' => by
    rcases List.mem_append.1 hd' with h' | h' <;> simp [h']
  refine ⟨h.hmasks, h.hwt, h.hlin, h.hsize, h.hclosed, fun i hi => by rw [hbit, h.hsub i hi]; rfl, fun i hi hL => ?_, fun p hp => ?_, fun i hi hL => ?_, fun d' hd' => ?_, ?_, fun t u e g => ?_, fun t u e => ?_, fun p hp hb hS => ?_, fun p hp q hq hpb hqb hpS hqS hpq => ?_⟩
  · rw [hbit, Bool.or_eq_true] at hL
    rcases hL with hL | hL
    · rcases h.hundone i hi hL with h' | ⟨p, h1, h2⟩
      · exact .inl h'
      · exact .inr ⟨p, List.mem_cons_of_mem _ h1, h2⟩
    · exact .inr ⟨_, List.mem_cons_self .., by simpa using hL⟩
  · rcases List.mem_cons.1 hp with rfl | hp
    · exact ⟨d1, d2, by rw [hbit]; simp⟩
    · obtain ⟨a, b, c⟩ := h.hpend p hp
      exact ⟨a, b, by rw [hbit, c]; rfl⟩
  · rw [hbit, Bool.or_eq_false_iff] at hL
    obtain ⟨d', a, b⟩ := h.hleft i hi hL.1
    refine ⟨d', ?_, b⟩
    rcases List.mem_append.1 a with h' | h'
    · exact List.mem_append_left _ h'
    · rcases List.mem_cons.1 h' with rfl | h'
      · have := hL.2; simp [b] at this
      · exact List.mem_append_right _ h'
  · obtain ⟨a, b, c⟩ := h.hleft2 d' (hsub d' hd')
    refine ⟨a, b, ?_⟩
    rw [hbit, c]
    have := hne d' hd'
    simp; omega
  · rw [List.pairwise_append]
    exact ⟨s1, s2.2, fun a ha b hb => s3 a ha b (List.mem_cons_of_mem _ hb)⟩
  · rcases aput_get hnt e with ⟨e1, _, _⟩ | ⟨e1, e2⟩
    · exfalso
      refine (g d.i d.o d1 e1).1 ⟨by rw [hbit]; simp, ?_⟩
      have hlt : d.i < S.size := by
        rw [h.hsize]
        rcases Nat.lt_or_ge d.i ops.size with h' | h'
        · exact h'
        · rw [Array.getElem?_eq_none h'] at d1; cases d1
      rw [Array.getElem?_eq_getElem hlt] at hSd ⊢
      cases hb : S[d.i] with
      | true => rw [hb] at hSd; exact (hSd rfl).elim
      | false => rfl
    · refine h.htm t u e2 fun i o hi ho => ⟨fun ⟨x, y⟩ => (g i o hi ho).1 ⟨by rw [hbit, x]; rfl, y⟩, fun hc => by cases hc⟩
  · rcases aput_get hnt e with ⟨_, _, e1⟩ | ⟨_, e2⟩
    · rw [hs]; exact e1
    · exact h.hnt t u e2
  · rcases List.mem_cons.1 hp with rfl | hp
    · exact .inr ⟨hb, rfl⟩
    · exact .inl (h.hres p hp hb hS)
  · rcases List.mem_cons.1 hp with rfl | hp
    · rcases List.mem_cons.1 hq with rfl | hq
      · rfl
      · have hRq := h.hres q hq hqb hqS
        have hpq' : r = q.r := hpq
        exact absurd (hpq' ▸ hRq) (hr hpb)
    · rcases List.mem_cons.1 hq with rfl | hq
      · have hRp := h.hres p hp hpb hpS
        have hpq' : p.r = r := hpq
        exact absurd (hpq' ▸ hRp) (hr hqb)
      · exact h.hresd p hp q hq hpb hqb hpS hqS hpq

theorem sweep_run {ops : Array Oper} {wt : T Nat} {nt : Nat} (hnt : nt + 1 < 2 ^ deep) {tmps : Array Value} (hs : tmps.size = nt) {rest : List Nat} {R2 : Nat → Prop} {ms : Nat → Nat} {S : Array Bool} :
    ∀ {l : List DOp} {s s' : Dst} {R : Nat → Prop}, asweep E ops wt nt l s = some s' → DInv ρ ops wt (s.left.reverse ++ l) s.L s.pend s.tm tmps none rest R ms S → Rel B W G ρ s.H w → (∀ r, R r → ¬ R2 r) → (∀ r, R r ∨ R2 r → r < s.H.next ∧ ρ r = none) →
      ∃ R', DInv ρ ops wt s'.left s'.L s'.pend s'.tm tmps none rest R' ms S ∧ Rel B W G ρ s'.H w ∧ (∀ r, R' r → ¬ R2 r) ∧ (∀ r, R' r ∨ R2 r → r < s'.H.next ∧ ρ r = none)
  | [], s, s', R, h, hD, hR, hd, hres => by
    cases h
    exact ⟨R, by simpa using hD, hR, hd, hres⟩
  | d :: l, s, s', R, h, hD, hR, hd, hres => by
    simp only [asweep] at h
    rcases bif_some h with ⟨_, h⟩ | ⟨_, h⟩
    · exact sweep_run hnt hs h (by simpa using hD) hR hd hres
    · split at h
      · rcases bif_some h with ⟨_, h⟩ | ⟨_, h⟩
        · split at h
          rotate_left
          · cases h
          rename_i k ob hk
          rcases bif_some h with ⟨hr, h⟩ | ⟨_, h⟩
          rotate_left
          · cases h
          have hnr : ¬ R s.H.next := fun hc => by have := (hres _ (.inl hc)).1; omega
          refine sweep_run hnt hs h (hD.take hnt hs (kval k s.H.next) s.H.next true fun _ => hnr) (hR.reserve hr ob) (fun r hr' hr2 => ?_) (fun r hr' => ?_)
          · rcases hr' with hr' | ⟨_, rfl⟩
            · exact hd r hr' hr2
            · have := (hres _ (.inr hr2)).1; omega
          · have hn : (s.H.push ob).next = s.H.next + 1 := rfl
            have hnone : ρ s.H.next = none := by
              cases hq : ρ s.H.next with
              | none => rfl
              | some x => have := hR.lt _ _ hq; omega
            rcases hr' with (hr' | ⟨_, rfl⟩) | hr'
            · obtain ⟨a, b⟩ := hres r (.inl hr'); exact ⟨by simp only [hn]; omega, b⟩
            · exact ⟨by simp only [hn]; omega, hnone⟩
            · obtain ⟨a, b⟩ := hres r (.inr hr'); exact ⟨by simp only [hn]; omega, b⟩
        · split at h
          rotate_left
          · cases h
          rename_i v hv
          refine sweep_run hnt hs h (hD.take hnt hs v 0 false fun h => by cases h) hR (fun r hr' => ?_) (fun r hr' => ?_)
          · rcases hr' with hr' | ⟨h, _⟩
            · exact hd r hr'
            · cases h
          · rcases hr' with (hr' | ⟨h, _⟩) | hr'
            · exact hres r (.inl hr')
            · cases h
            · exact hres r (.inr hr')
      · refine sweep_run hnt hs h (hD.take hnt hs (.tuple []) 0 false fun h => by cases h) hR (fun r hr' => ?_) (fun r hr' => ?_)
        · rcases hr' with hr' | ⟨h, _⟩
          · exact hd r hr'
          · cases h
        · rcases hr' with (hr' | ⟨h, _⟩) | hr'
          · exact hres r (.inl hr')
          · cases h
          · exact hres r (.inr hr')
      · cases h
end Go.Am
/- An abstract machine for the model's code, part 28: a region of a drawn order: what may be done late, done. -/
namespace Go.Am
open Go Go.RowKit

variable {E : Env} {P : Program} {B : Nat} {W : World} {G : Nat} {ρ : Ren} {H : AHeap} {w : World} {base : List Frame}

theorem ready_bits {ops : Array Oper} {ms : Nat → Nat} (hm : Masks ops ms) {S : Array Bool} (hs : S.size = ops.size) (hc : ∀ i, S[i]? = some true → ∀ j, (ms i).testBit j = true → S[j]? = some true) {i : Nat}
    (h : i ∈ Region.ready .any ops S) : ∀ j, (ms i).testBit j = true → S[j]? = some true := by
  intro j hj
  obtain ⟨_, _, o, ho, hall⟩ := ready_spec hs h
  obtain ⟨e, h1, h2, h3⟩ := hm.up i o ho j hj
  have := hall e h1 h2
  rcases h3 with h3 | h3
  · rw [← h3]; exact this
  · exact hc _ this j h3

theorem evD_run (hG : E.gl ≤ G) (hR : Rel B W G ρ H w) {ops : Array Oper} {wt : T Nat} {left : List DOp} {L : Nat} {pend : List Pend} {tm : T AV} {fr : Frame} {rest : List Nat} {R : Nat → Prop} {ms : Nat → Nat} {S : Array Bool}
    (h : DInv ρ ops wt left L pend tm fr.tmps none rest R ms S) {M : Nat} (hM : ∀ j, M.testBit j = true → S[j]? = some true) : Evr ρ (aevD E tm wt M L) fr.eval := by
  intro x v e
  cases x with
  | tmp t =>
    simp only [aevD] at e
    rcases bif_some e with ⟨c, e⟩ | ⟨_, e⟩
    rotate_left
    · cases e
    refine tm_eval (nt := 0) (tm := tm) (h.htm t v e fun i o hi ho => ⟨fun ⟨hL, hS⟩ => ?_, fun hc => by cases hc⟩)
    have hw := h.hwt i o t hi ho
    simp only [readOk, hw, hL, Bool.not_true, Bool.or_false] at c
    have := hM i c
    rw [this] at hS; cases hS
  | const c => exact ofValue_conc e
  | global g =>
    simp only [aevD, aev] at e
    rcases bif_some e with ⟨c, h2⟩ | ⟨_, h2⟩
    rotate_left
    · cases h2
    cases h2
    have := blt_lt c
    obtain ⟨C, hC⟩ := hR.glob g (by omega)
    simp only [conc, hC, Nat.zero_add]
    rfl
  | func f => cases e; rfl

theorem self_atR {fr : Frame} (hm : fr.mode = .run) : fr.atR ⟨fr.tmps, fr.defers⟩ fr.todo = fr := by
  simp only [Frame.atR]
  rw [← hm]

/-- An operation that yields a value. -/
theorem op_value {fr : Frame} {cs : List Frame} (hm : fr.mode = .run) {ops : Array Oper} {j : Nat} {rest : List Nat} {k' : List Item} (hft : fr.todo = .inRegion ops (j :: rest) :: k') {o : Oper} (hoj : ops[j]? = some o)
    (hw : Region.wanted o (yielded ops fr.tmps) = true) (hnd : ∀ c, o.op ≠ .defer c) {v' : Value} {w' : World} (hr : (execOp fr.eval o).run P w = .ok (.value v') w') :
    step P (lone fr cs w) = .next (lone (fr.finish v') cs w') := by
  refine step_lone_go ?_
  have hself := self_atR hm
  rw [hft] at hself
  have hev : (⟨fr.tmps, fr.defers⟩ : Act).eval = fr.eval := by
    funext x; cases x <;> rfl
  have := stepGR_op (P := P) (b := fr) (a := ⟨fr.tmps, fr.defers⟩) (k := k') (cs := cs) (w := w) (rest := rest) hoj hw
  rw [hself, hev, Oper.semAt_eq _ _ _ hnd] at this
  rw [this]
  simp [stepG.apply, Sem.runT_eq, hr]

theorem op_not {fr : Frame} {cs : List Frame} (hm : fr.mode = .run) {ops : Array Oper} {j : Nat} {rest : List Nat} {k' : List Item} (hft : fr.todo = .inRegion ops (j :: rest) :: k') {o : Oper} (hoj : ops[j]? = some o)
    (hw : Region.wanted o (yielded ops fr.tmps) = false) : step P (lone fr cs w) = .next (lone (fr.finish undef) cs w) :=
  step_lone_go (by simp [stepG, stepG.exec, hm, hft, hoj, hw])

theorem finish_at' {fr : Frame} {ops : Array Oper} {j : Nat} {rest : List Nat} {k' : List Item} (hft : fr.todo = .inRegion ops (j :: rest) :: k') {o : Oper} (hoj : ops[j]? = some o) (v' : Value) :
    fr.finish v' = { fr with tmps := (match o.dst with | some d => fr.tmps.setIfInBounds d v' | none => fr.tmps), todo := .inRegion ops rest :: k' } := by
  simp only [Frame.finish, hft, hoj, Option.bind_some]
  cases o.dst <;> rfl

theorem aread_not_defer {ev : Operand → Option AV} {o : Op} {v : AV} (h : aread E H ev o = some v) : ∀ c, o ≠ .defer c := by
  rintro c rfl
  simp [aread] at h

/-- One that may be done late, done. -/
theorem late_run (hE : E.Ok P) (hG : E.gl ≤ G) (hR : Rel B W G ρ H w) {ops : Array Oper} {wt : T Nat} {left : List DOp} {L : Nat} {pend : List Pend} {tm : T AV} {fr : Frame} {i : Nat} {rest rest' : List Nat} {R R2 : Nat → Prop} {ms : Nat → Nat} {S : Array Bool}
    (h : DInv ρ ops wt left L pend tm fr.tmps none rest R ms S) (hm : fr.mode = .run) {k' : List Item} (hft : fr.todo = .inRegion ops (i :: rest') :: k') (hi : i ∈ Region.ready .any ops S) {p : Pend} (hp : p ∈ pend) (hpi : p.d.i = i)
    (hc : arecheck E H tm ops wt L p = true) (hlin : Lin ops (S.setIfInBounds i true) rest') (hd : ∀ r, R r → ¬ R2 r) (hres : ∀ r, R r ∨ R2 r → r < H.next ∧ ρ r = none) (cs : List Frame) :
    ∃ fr' ρ' R' w', step P (lone fr cs w) = .next (lone fr' cs w') ∧ DInv ρ' ops wt left L pend tm fr'.tmps none rest' R' ms (S.setIfInBounds i true) ∧ Rel B W G ρ' H w' ∧
      fr' = { fr with tmps := fr'.tmps, todo := .inRegion ops rest' :: k' } ∧ fr'.tmps.size = fr.tmps.size ∧ ρ.le ρ' ∧ (∀ r, R' r → ¬ R2 r) ∧ (∀ r, R' r ∨ R2 r → r < H.next ∧ ρ' r = none) := by
  obtain ⟨hil, hSi, o, hoi, _⟩ := ready_spec h.hsize hi
  have hil' : i < S.size := by rw [h.hsize]; exact hil
  obtain ⟨p1, p2, p3⟩ := h.hpend p hp
  rw [hpi] at p1 p2 p3
  have hpo : p.d.o = o := by rw [p1] at hoi; exact Option.some.inj hoi
  have hbits := ready_bits h.hmasks h.hsize h.hclosed hi
  have hev := evD_run hG hR h (M := p.d.M) (by rw [p2]; exact hbits)
  have hS' : ∀ j : Nat, (S.setIfInBounds i true)[j]? = some false → S[j]? = some false ∧ j ≠ i := by
    intro j hj
    by_cases hji : j = i
    · subst hji; rw [Array.getElem?_setIfInBounds_self_of_lt hil'] at hj; cases hj
    · rw [Array.getElem?_setIfInBounds_ne (fun h => hji h.symm)] at hj; exact ⟨hj, hji⟩
  have hSt : ∀ j : Nat, (S.setIfInBounds i true)[j]? = some true → S[j]? = some true ∨ j = i := by
    intro j hj
    by_cases hji : j = i
    · exact .inr hji
    · rw [Array.getElem?_setIfInBounds_ne (fun h => hji h.symm)] at hj; exact .inl hj
  have hSk : ∀ j : Nat, S[j]? = some true → (S.setIfInBounds i true)[j]? = some true := by
    intro j hj
    by_cases hji : j = i
    · subst hji; exact Array.getElem?_setIfInBounds_self_of_lt hil'
    · rw [Array.getElem?_setIfInBounds_ne (fun h => hji h.symm)]; exact hj
  -- the end, once the operation's value is known
  have fin : ∀ (ρ' : Ren) (w' : World) (v : AV) (v' : Value) (R' : Nat → Prop), step P (lone fr cs w) = .next (lone (fr.finish v') cs w') → conc ρ' v = some v' → (∀ t, o.dst = some t → tm.get t = some v) → Rel B W G ρ' H w' → ρ.le ρ' →
      (∀ r, R' r → R r) → (∀ q ∈ pend, q.born = true → S[q.d.i]? = some false → q.d.i ≠ i → R' q.r) → (∀ r, R' r ∨ R2 r → ρ' r = none) →
      ∃ fr' ρ' R' w', step P (lone fr cs w) = .next (lone fr' cs w') ∧ DInv ρ' ops wt left L pend tm fr'.tmps none rest' R' ms (S.setIfInBounds i true) ∧ Rel B W G ρ' H w' ∧
      fr' = { fr with tmps := fr'.tmps, todo := .inRegion ops rest' :: k' } ∧ fr'.tmps.size = fr.tmps.size ∧ ρ.le ρ' ∧ (∀ r, R' r → ¬ R2 r) ∧ (∀ r, R' r ∨ R2 r → r < H.next ∧ ρ' r = none) := by
    intro ρ' w' v v' R' g1 g2 g3 g4 g5 g6 g7 g8
    have hfin := finish_at' hft hoi v'
    refine ⟨fr.finish v', ρ', R', w', g1, ?_, g4, by rw [hfin], by rw [hfin]; cases o.dst <;> simp, g5, fun r hr => hd r (g6 r hr), fun r hr => ⟨(hres r (hr.imp (g6 r) id)).1, g8 r hr⟩⟩
    rw [hfin]
    refine ⟨h.hmasks, h.hwt, hlin, by simpa using h.hsize, fun a ha b hb => ?_, fun a ha => ?_, fun a ha hL => ?_, h.hpend, h.hleft, h.hleft2, h.hsorted, fun t u e g => ?_, fun t u e => ?_, fun q hq hb hS => ?_, fun q hq q' hq' hb hb' hS hS2 e => ?_⟩
    · rcases hSt a ha with ha | rfl
      · exact hSk b (h.hclosed a ha b hb)
      · exact hSk b (hbits b hb)
    · rcases hSt a ha with ha | rfl
      · exact h.hsub a ha
      · exact p3
    · rcases h.hundone a ha hL with h' | h'
      · exact .inl (hSk a h')
      · exact .inr h'
    · show ∃ v'_1, conc ρ' u = some v'_1 ∧ (match o.dst with | some d => fr.tmps.setIfInBounds d v' | none => fr.tmps)[t]? = some v'_1
      by_cases hdt : o.dst = some t
      · have := g3 t hdt
        rw [this] at e; cases e
        refine ⟨v', g2, ?_⟩
        rw [hdt]
        simp only
        rw [Array.getElem?_setIfInBounds_self_of_lt (h.hnt t _ this)]
      · obtain ⟨u', x1, x2⟩ := h.htm t u e fun a oa hoa hda => ⟨fun ⟨y1, y2⟩ => by
          by_cases hai : a = i
          · subst hai
            rw [hoi] at hoa; cases hoa
            exact hdt hda
          · exact (g a oa hoa hda).1 ⟨y1, by rw [Array.getElem?_setIfInBounds_ne (fun h => hai h.symm)]; exact y2⟩, fun hc => by cases hc⟩
        refine ⟨u', conc_mono g5 _ _ x1, ?_⟩
        cases hdd : o.dst with
        | none => exact x2
        | some d =>
          simp only
          rw [Array.getElem?_setIfInBounds_ne (fun e => hdt (by rw [hdd, e]))]
          exact x2
    · have := h.hnt t u e
      show t < (match o.dst with | some d => fr.tmps.setIfInBounds d v' | none => fr.tmps).size
      cases o.dst <;> simpa using this
    · obtain ⟨a, b⟩ := hS' _ hS
      exact g7 q hq hb a b
    · exact h.hresd q hq q' hq' hb hb' (hS' _ hS).1 (hS' _ hS2).1 e
  unfold arecheck at hc
  split at hc
  rotate_left
  · cases hc
  rename_i v hv
  have hdst : ∀ t, o.dst = some t → tm.get t = some v := by
    intro t ht
    rw [hpo, ht] at hc
    simp only at hc
    split at hc
    · rename_i u hu; rw [hu, sameV_eq hc]
    · cases hc
  unfold acanon at hv
  rw [hpo] at hv
  split at hv
  · rename_i hg
    have hw := guard_run (ρ := ρ) (ops := ops) (fr := fr) (fun t v e => hev (.tmp t) v e) hg
    rcases bif_some hv with ⟨hmk, hv⟩ | ⟨_, hv⟩
    · rcases bif_some hv with ⟨hborn, hv⟩ | ⟨_, hv⟩
      rotate_left
      · cases hv
      split at hv
      rotate_left
      · cases hv
      rename_i k ob hk
      rcases bif_some hv with ⟨hsame, hv⟩ | ⟨_, hv⟩
      rotate_left
      · cases hv
      cases hv
      obtain ⟨vo, v', h2, h1, h3⟩ := amk_run hE hev hk w
      have hob := sameObj_eq hsame
      have hRp := h.hres p hp hborn (by rw [hpi]; exact hSi)
      obtain ⟨hlt, hnone⟩ := hres p.r (.inl hRp)
      refine fin (ρ.put p.r ⟨w.heap.size, 0, 0⟩) _ (kval k p.r) v' (fun r => R r ∧ r ≠ p.r) (op_value hm hft hoi hw (fun c hc => by rw [hc] at hmk; cases hmk) h2) (h3 _ p.r (Ren.put_same _ _ _)) hdst (hR.born hlt hnone (by rw [hob]; exact h1))
        (fun j m hj => by simp only [Ren.put]; rw [if_neg (fun e => by subst e; rw [hnone] at hj; cases hj)]; exact hj) (fun r hr => hr.1) (fun q hq hb hS hne => ⟨h.hres q hq hb hS, fun e => ?_⟩) (fun r hr => ?_)
      · exact hne ((h.hresd q hq p hp hb hborn hS (by rw [hpi]; exact hSi) e).trans hpi)
      · have hne : r ≠ p.r := by
          rcases hr with hr | hr
          · exact hr.2
          · intro e; subst e; exact hd _ hRp hr
        simp only [Ren.put]
        rw [if_neg hne]
        exact (hres r (hr.imp (fun x => x.1) id)).2
    · obtain ⟨v', h1, h2⟩ := aread_run hE hR hev hv
      exact fin ρ w v v' R (op_value hm hft hoi hw (aread_not_defer hv) h2) h1 hdst hR (Ren.le_refl _) (fun _ h => h) (fun q hq hb hS _ => h.hres q hq hb hS) (fun r hr => (hres r hr).2)
  · rename_i hg
    cases hv
    have hw := guard_run (ρ := ρ) (ops := ops) (fr := fr) (fun t v e => hev (.tmp t) v e) hg
    exact fin ρ w _ undef R (op_not hm hft hoi hw) (by simp [conc, concL, undef]) hdst hR (Ren.le_refl _) (fun _ h => h) (fun q hq hb hS _ => h.hres q hq hb hS) (fun r hr => (hres r hr).2)
  · cases hv

/-- All that may be done late and comes before the next that acts, done. -/
theorem drain_run (hE : E.Ok P) (hG : E.gl ≤ G) {ops : Array Oper} {wt : T Nat} {left : List DOp} {L : Nat} {pend : List Pend} {tm : T AV} {ms : Nat → Nat} {R2 : Nat → Prop} {k' : List Item} {cs : List Frame}
    (hall : pend.all (arecheck E H tm ops wt L) = true) : ∀ (rest : List Nat) (fr : Frame) (ρ : Ren) (S : Array Bool) (R : Nat → Prop) (w : World), DInv ρ ops wt left L pend tm fr.tmps none rest R ms S → Rel B W G ρ H w → fr.mode = .run →
      fr.todo = .inRegion ops rest :: k' → (∀ r, R r → ¬ R2 r) → (∀ r, R r ∨ R2 r → r < H.next ∧ ρ r = none) →
    ∃ fr' ρ' S' R' w' rest', Steps P (lone fr cs w) (lone fr' cs w') ∧ DInv ρ' ops wt left L pend tm fr'.tmps none rest' R' ms S' ∧ Rel B W G ρ' H w' ∧ fr' = { fr with tmps := fr'.tmps, todo := .inRegion ops rest' :: k' } ∧
      fr'.tmps.size = fr.tmps.size ∧ ρ.le ρ' ∧ (∀ r, R' r → ¬ R2 r) ∧ (∀ r, R' r ∨ R2 r → r < H.next ∧ ρ' r = none) ∧
      ((rest' = [] ∧ Region.ready .any ops S' = []) ∨ ∃ i rest'', rest' = i :: rest'' ∧ i ∈ Region.ready .any ops S' ∧ Lin ops (S'.setIfInBounds i true) rest'' ∧ L.testBit i = false) := by
  intro rest
  induction rest with
  | nil =>
    intro fr ρ S R w hD hR hm hft hd hres
    refine ⟨fr, ρ, S, R, w, [], .refl _ _, hD, hR, by rw [← hft], rfl, Ren.le_refl _, hd, hres, .inl ⟨rfl, ?_⟩⟩
    rcases hD.hlin.cases hD.hsize with ⟨_, h⟩ | ⟨_, _, h, _⟩
    · exact h
    · cases h
  | cons i rest' ih =>
    intro fr ρ S R w hD hR hm hft hd hres
    rcases hD.hlin.cases hD.hsize with ⟨h, _⟩ | ⟨i', rest'', h, hi, hlin⟩
    · cases h
    · cases h
      cases hL : L.testBit i with
      | false => exact ⟨fr, ρ, S, R, w, i :: rest', .refl _ _, hD, hR, by rw [← hft], rfl, Ren.le_refl _, hd, hres, .inr ⟨i, rest', rfl, hi, hlin, hL⟩⟩
      | true =>
        obtain ⟨hil, hSi, _⟩ := ready_spec hD.hsize hi
        obtain ⟨p, hp, hpi⟩ : ∃ p ∈ pend, p.d.i = i := by
          rcases hD.hundone i hil hL with h | h
          · rw [hSi] at h; cases h
          · exact h
        have hc := (List.all_eq_true.1 hall) p hp
        obtain ⟨fr1, ρ1, R1, w1, g1, g2, g3, g4, g5, g6, g7, g8⟩ := late_run hE hG hR hD hm hft hi hp hpi hc hlin hd hres cs
        obtain ⟨fr2, ρ2, S2, R2', w2, rest2, q1, q2, q3, q4, q5, q6, q7, q8, q9⟩ := ih fr1 ρ1 _ R1 w1 g2 g3 (by rw [g4]; exact hm) (by rw [g4]) g7 g8
        refine ⟨fr2, ρ2, S2, R2', w2, rest2, .head g1 q1, q2, q3, ?_, q5.trans g5, Ren.le_trans g6 q6, q7, q8, q9⟩
        rw [q4, g4]
end Go.Am
/- An abstract machine for the model's code, part 29: every step; a run; a call. -/
namespace Go.Am
open Go Go.RowKit

variable {E : Env} {P : Program} {B : Nat} {W : World} {G : Nat} {ρ : Ren} {H : AHeap} {w : World} {base : List Frame}

/-- One step in a region of a drawn order. -/
theorem drawn_run (hE : E.Ok P) (hG : E.gl ≤ G) (hR : Rel B W G ρ H w) {f : AFrame} {fr : Frame} {R1 R2 : Nat → Prop} (hf : FrRel ρ f fr R1) (hrun : f.mode = .run) {callers : List AFrame} {cs : List Frame} (hcs : StackRel ρ callers cs R2)
    (hd : ∀ r, R1 r → ¬ R2 r) (hres : ∀ r, R1 r ∨ R2 r → r < H.next ∧ ρ r = none) {ops : Array Oper} {wt : T Nat} {left : List DOp} {L : Nat} {pend : List Pend} {k : List AItem} (hft : f.todo = .drawn ops wt left L pend :: k)
    {st : AState} (h : adrawn E f callers H ops wt left L pend k = some st) : Goes P B W G base ρ fr cs w st := by
  have hfm : fr.mode = .run := by rw [hf.mode, hrun]; rfl
  have h7 := hf.todo
  rw [hft, hrun] at h7
  generalize hfr : fr.todo = frt at h7
  cases h7 with
  | plain ht hi hR1 =>
    cases frt with
    | nil => exact hi.elim
    | cons it k' => exact absurd hi.1 (by cases it <;> exact id)
  | drawn hs hD hi =>
    rename_i rest k'
    obtain ⟨ms, S, hD⟩ := hD
    unfold adrawn at h
    split at h
    rotate_left
    · cases h
    rename_i s hsw
    rcases bif_some h with ⟨hall, h⟩ | ⟨_, h⟩
    rotate_left
    · cases h
    obtain ⟨R', d1, d2, d3, d4⟩ := sweep_run hf.nt hs hsw (by simpa using hD) hR hd hres
    obtain ⟨fr1, ρ1, S1, R1', w1, rest1, q1, q2, q3, q4, q5, q6, q7, q8, q9⟩ := drain_run (cs := cs ++ base) hE hG hall rest fr ρ S R' w d1 d2 hfm hfr d3 d4
    have hfm1 : fr1.mode = .run := by rw [q4]; exact hfm
    have hft1 : fr1.todo = .inRegion ops rest1 :: k' := by rw [q4]
    have hs1 : fr1.tmps.size = f.nt := q5.trans hs
    have hkeep : fr1.fn = fr.fn ∧ fr1.kind = fr.kind ∧ fr1.defers = fr.defers ∧ fr1.roundOf = fr.roundOf := by rw [q4]; exact ⟨rfl, rfl, rfl, rfl⟩
    have hf1 := hf.mono q6
    have hcs1 := hcs.mono q6
    split at h
    · rename_i hl
      cases h
      rcases q9 with ⟨rfl, hno⟩ | ⟨i, rest2, rfl, hir, hlin, hLi⟩
      · have hls := all_listed q2.hmasks q2.hsize hno
        have htm : tmRel ρ1 f.nt s.tm fr1.tmps := by
          refine ⟨hs1, fun t v e => q2.htm t v e fun i o hi ho => ⟨fun ⟨_, hS⟩ => ?_, fun hc => (by cases hc)⟩⟩
          have hlt : i < ops.size := by
            rcases Nat.lt_or_ge i ops.size with h' | h'
            · exact h'
            · rw [Array.getElem?_eq_none h'] at hi; cases hi
          rw [hls i hlt] at hS; cases hS
        refine ⟨{ fr1 with todo := k' }, cs, w1, ρ1, Steps.trans q1 (.one ?_), ⟨q3, fun _ => False, R2, ⟨?_, ?_, ?_, ?_, hf.nt, ?_, ?_⟩, hcs1, fun _ h => h.elim, fun r hr => q8 r (.inr (hr.elim (fun h => h.elim) id))⟩, q6⟩
        · exact step_lone_go (by simp [stepG, stepG.exec, hfm1, hft1])
        · show fr1.fn = f.fn
          rw [hkeep.1]; exact hf.fn
        · show fr1.kind = _
          rw [hkeep.2.1]; exact hf.kind
        · show fr1.mode = f.mode.conc
          rw [hfm1, hrun]; rfl
        · show RoundRel ρ1 f.round fr1.roundOf
          rw [hkeep.2.2.2]; exact hf1.round
        · show ADsRel ρ1 f.defers fr1.defers
          rw [hkeep.2.2.1]; exact hf1.defers
        · show TodoRel ρ1 f.nt s.tm fr1.tmps f.mode k k' _
          rw [hrun]
          exact .plain htm (hi.mono q6) fun _ h => h
      · exfalso
        obtain ⟨hil, _, _⟩ := ready_spec q2.hsize hir
        obtain ⟨d, hdm, _⟩ := q2.hleft i hil hLi
        rw [hl] at hdm; cases hdm
    · rename_i e l hl
      rcases bif_some h with ⟨hlast, h⟩ | ⟨_, h⟩
      rotate_left
      · cases h
      rw [hl] at q2
      obtain ⟨e1, e2, e3⟩ := q2.hleft2 e (List.mem_cons_self ..)
      have helt : e.i < ops.size := by
        rcases Nat.lt_or_ge e.i ops.size with h' | h'
        · exact h'
        · rw [Array.getElem?_eq_none h'] at e1; cases e1
      rcases q9 with ⟨rfl, hno⟩ | ⟨i, rest2, rfl, hir, hlin, hLi⟩
      · exfalso
        have := q2.hsub e.i (all_listed q2.hmasks q2.hsize hno e.i helt)
        rw [e3] at this; cases this
      · obtain ⟨hil, hSi, _⟩ := ready_spec q2.hsize hir
        have hil' : i < S1.size := by rw [q2.hsize]; exact hil
        have hbits := ready_bits q2.hmasks q2.hsize q2.hclosed hir
        obtain ⟨d, hdm, hdi⟩ := q2.hleft i hil hLi
        have hei : e = d := by
          rcases List.mem_cons.1 hdm with h' | h'
          · exact h'.symm
          · exfalso
            have hnr := (List.all_eq_true.1 hlast) d h'
            obtain ⟨_, m2, _⟩ := q2.hleft2 d hdm
            have : readyIn d s.L = true := by
              unfold readyIn
              rw [Nat.beq_eq]
              apply Nat.eq_of_testBit_eq
              intro j
              rw [bit_land]
              cases hb : d.M.testBit j with
              | false => rfl
              | true =>
                rw [m2, hdi] at hb
                rw [q2.hsub j (hbits j hb)]; rfl
            rw [this] at hnr; cases hnr
        subst hei
        subst hdi
        have hM : ∀ j, e.M.testBit j = true → S1[j]? = some true := by rw [e2]; exact hbits
        have hev := evD_run hG q3 q2 hM
        have hbit : ∀ j, (Nat.lor s.L (Nat.shiftLeft 1 e.i)).testBit j = (s.L.testBit j || decide (e.i = j)) := fun j => by rw [bit_lor, bit_one]
        have hSk : ∀ j : Nat, S1[j]? = some true → (S1.setIfInBounds e.i true)[j]? = some true := by
          intro j hj
          by_cases hji : j = e.i
          · subst hji; exact Array.getElem?_setIfInBounds_self_of_lt hil'
          · rw [Array.getElem?_setIfInBounds_ne (fun h => hji h.symm)]; exact hj
        have hSt : ∀ j : Nat, (S1.setIfInBounds e.i true)[j]? = some true → S1[j]? = some true ∨ j = e.i := by
          intro j hj
          by_cases hji : j = e.i
          · exact .inr hji
          · rw [Array.getElem?_setIfInBounds_ne (fun h => hji h.symm)] at hj; exact .inl hj
        have hSf : ∀ j : Nat, (S1.setIfInBounds e.i true)[j]? = some false → S1[j]? = some false ∧ j ≠ e.i := by
          intro j hj
          by_cases hji : j = e.i
          · subst hji; rw [Array.getElem?_setIfInBounds_self_of_lt hil'] at hj; cases hj
          · rw [Array.getElem?_setIfInBounds_ne (fun h => hji h.symm)] at hj; exact ⟨hj, hji⟩
        have hsorted := q2.hsorted
        rw [List.pairwise_cons] at hsorted
        have hDin : DInv ρ1 ops wt l (Nat.lor s.L (Nat.shiftLeft 1 e.i)) (s.pend.filter fun p => !Nat.testBit e.M p.d.i) s.tm fr1.tmps (some e.i) rest2 R1' ms (S1.setIfInBounds e.i true) := by
          refine ⟨q2.hmasks, q2.hwt, hlin, by simpa using q2.hsize, fun a ha b hb => ?_, fun a ha => ?_, fun a ha hL => ?_, fun p hp => ?_, fun a ha hL => ?_, fun d hd' => ?_, hsorted.2, fun t v ev g => ?_, q2.hnt, fun p hp hb hS => ?_, fun p hp p' hp' hb hb' hS hS' ee => ?_⟩
          · rcases hSt a ha with ha | rfl
            · exact hSk b (q2.hclosed a ha b hb)
            · exact hSk b (hbits b hb)
          · rcases hSt a ha with ha | rfl
            · rw [hbit, q2.hsub a ha]; rfl
            · rw [hbit]; simp
          · rw [hbit, Bool.or_eq_true] at hL
            rcases hL with hL | hL
            · rcases q2.hundone a ha hL with h' | ⟨p, h1, h2⟩
              · exact .inl (hSk a h')
              · cases hb : e.M.testBit p.d.i with
                | true => exact .inl (hSk a (by rw [← h2]; exact hM _ hb))
                | false => exact .inr ⟨p, List.mem_filter.2 ⟨h1, by rw [hb]; rfl⟩, h2⟩
            · have : e.i = a := by simpa using hL
              subst this
              exact .inl (Array.getElem?_setIfInBounds_self_of_lt hil')
          · obtain ⟨a, b, c⟩ := q2.hpend p (List.mem_filter.1 hp).1
            exact ⟨a, b, by rw [hbit, c]; rfl⟩
          · rw [hbit, Bool.or_eq_false_iff] at hL
            obtain ⟨d, x1, x2⟩ := q2.hleft a ha hL.1
            refine ⟨d, ?_, x2⟩
            rcases List.mem_cons.1 x1 with rfl | h'
            · have := hL.2; simp [x2] at this
            · exact h'
          · obtain ⟨a, b, c⟩ := q2.hleft2 d (List.mem_cons_of_mem _ hd')
            refine ⟨a, b, ?_⟩
            rw [hbit, c]
            have := hsorted.1 d hd'
            simp; omega
          · refine q2.htm t v ev fun a oa hoa hda => ⟨fun ⟨y1, y2⟩ => ?_, fun hc => by cases hc⟩
            obtain ⟨z1, z2⟩ := g a oa hoa hda
            refine z1 ⟨by rw [hbit, y1]; rfl, ?_⟩
            rw [Array.getElem?_setIfInBounds_ne (fun hh => z2 (by rw [hh]))]
            exact y2
          · exact q2.hres p (List.mem_filter.1 hp).1 hb (hSf _ hS).1
          · exact q2.hresd p (List.mem_filter.1 hp).1 p' (List.mem_filter.1 hp').1 hb hb' (hSf _ hS).1 (hSf _ hS').1 ee
        have hf2 : FrRel ρ1 { f with tm := s.tm, todo := .drawnIn ops wt e l (Nat.lor s.L (Nat.shiftLeft 1 e.i)) (s.pend.filter fun p => !Nat.testBit e.M p.d.i) :: k } fr1 R1' := by
          refine ⟨by rw [hkeep.1]; exact hf.fn, by rw [hkeep.2.1]; exact hf.kind, by rw [hfm1]; show _ = f.mode.conc; rw [hrun]; rfl, by rw [hkeep.2.2.2]; exact hf1.round, hf.nt, by rw [hkeep.2.2.1]; exact hf1.defers, ?_⟩
          show TodoRel ρ1 f.nt s.tm fr1.tmps f.mode _ _ _
          rw [hrun, hft1]
          exact .drawnIn hs1 e1 ⟨ms, _, hDin⟩ (hi.mono q6)
        have hgo : Goes P B W G base ρ1 fr1 cs w1 st := by
          simp only at h
          split at h
          · rename_i hg
            split at h
            rotate_left
            · cases h
            rename_i nx H' he
            exact op_goes hE q3 hf2 hrun hcs1 q7 q8 hev he h hft1 e1 (guard_run (ρ := ρ1) (fun t v e => hev (.tmp t) v e) hg)
          · rename_i hg
            exact op_skip q3 hf2 hrun hcs1 q7 q8 h hft1 e1 (guard_run (ρ := ρ1) (fun t v e => hev (.tmp t) v e) hg)
          · cases h
        obtain ⟨fr', cs', w', ρ', g1, g2, g3⟩ := hgo
        exact ⟨fr', cs', w', ρ', Steps.trans q1 g1, g2, Ren.le_trans q6 g3⟩
end Go.Am
/- An abstract machine for the model's code, part 30: every step; a run; a call. -/
namespace Go.Am
open Go Go.RowKit

variable {E : Env} {P : Program} {B : Nat} {W : World} {G : Nat} {ρ : Ren} {H : AHeap} {w : World} {base : List Frame}

theorem ItemsRel.cons_inv {a : AItem} {l : List AItem} {b : List Item} (h : ItemsRel ρ (a :: l) b) : ∃ b' m, b = b' :: m ∧ ItemRel ρ a b' ∧ ItemsRel ρ l m := by
  cases b with
  | nil => exact h.elim
  | cons b' m => exact ⟨b', m, rfl, h.1, h.2⟩

theorem ItemRel.code_inv {c : Code} {b : Item} (h : ItemRel ρ (.code c) b) : b = .code c := by
  cases b <;> first | exact h.elim | (cases h; rfl)

theorem goes_to {s : AState} {fr : Frame} {cs : List Frame} {R1 R2 : Nat → Prop} (hR : Rel B W G ρ s.H w) (hf : FrRel ρ s.top fr R1) (hcs : StackRel ρ s.callers cs R2) (hd : ∀ r, R1 r → ¬ R2 r) (hres : ∀ r, R1 r ∨ R2 r → r < s.H.next ∧ ρ r = none)
    (hm : s.top.mode = .run) (ht : tmRel ρ s.top.nt s.top.tm fr.tmps) (hR1 : ∀ r, ¬ R1 r) {k : List AItem} {k' : List Item} (hk : ItemsRel ρ k k')
    (hstep : (stepG P true { frame := fr, callers := cs ++ base, status := .running, dying := none } w).bare = .go { frame := { fr with todo := k' }, callers := cs ++ base, status := .running, dying := none } w) :
    Goes P B W G base ρ fr cs w { s with top := { s.top with todo := k } } :=
  ⟨_, cs, w, ρ, .one (step_lone_go hstep), ⟨hR, R1, R2, hf.to hm ht hR1 hk, hcs, hd, hres⟩, Ren.le_refl _⟩

/-- EVERY STEP. -/
theorem astep_run (hE : E.Ok P) (hG : E.gl ≤ G) {s s' : AState} {fr : Frame} {cs : List Frame} (hst : StRel B W G ρ s fr cs w) (h : astep E s = some s') : Goes P B W G base ρ fr cs w s' := by
  obtain ⟨hR, R1, R2, hf, hcs, hd, hres⟩ := hst
  unfold astep at h
  simp only at h
  split at h
  · rename_i hm
    exact unwind_run hE hf hm hcs hd hR hres h
  rename_i hm
  cases htd : s.top.todo with
  | nil =>
    rw [htd] at h
    simp only at h
    obtain ⟨hfm, ht, hi, hR1⟩ := hf.head hm (by rw [htd]; rfl)
    refine leave_run hf hm (by rw [htd]; rfl) hcs hd hR hres h (.inl ⟨rfl, ?_⟩)
    rw [htd] at hi
    cases hq : fr.todo with
    | nil => rfl
    | cons => rw [hq] at hi; exact hi.elim
  | cons it k =>
    rw [htd] at h
    cases it with
    | drawn ops wt left L pend =>
      simp only at h
      exact drawn_run hE hG hR hf hm hcs hd hres htd h
    | drawnIn => cases h
    | inRangeFunc => cases h
    | code c =>
      obtain ⟨hfm, ht, hi, hR1⟩ := hf.head hm (by rw [htd]; rfl)
      rw [htd] at hi
      obtain ⟨it', k', hft, hi1, hi2⟩ := hi.cons_inv
      have hi1 := hi1.code_inv
      subst hi1
      have hev := aev_run hG hR (fr := fr) ht
      cases c with
      | ret =>
        simp only at h
        exact leave_run hf hm (by rw [htd]; rfl) hcs hd hR hres h (.inr (.inl ⟨rfl, _, hft⟩))
      | skip =>
        simp only [Option.some.injEq] at h; subst h
        exact goes_to hR hf hcs hd hres hm ht hR1 hi2 (by simp [stepG, stepG.exec, hfm, hft])
      | label l =>
        simp only [Option.some.injEq] at h; subst h
        exact goes_to hR hf hcs hd hres hm ht hR1 hi2 (by simp [stepG, stepG.exec, hfm, hft])
      | seq a b =>
        simp only [Option.some.injEq] at h; subst h
        exact goes_to hR hf hcs hd hres hm ht hR1 (k' := .code a :: .code b :: k') ⟨rfl, rfl, hi2⟩ (by simp [stepG, stepG.exec, hfm, hft])
      | cond c a b =>
        simp only at h
        split at h
        rotate_left
        · cases h
        rename_i t hc
        simp only [Option.some.injEq] at h; subst h
        have hcb := conc_bool (hev c _ hc)
        exact goes_to hR hf hcs hd hres hm ht hR1 (k' := .code (if t then a else b) :: k') ⟨by cases t <;> rfl, hi2⟩ (by simp [stepG, stepG.exec, hfm, hft, hcb])
      | block id body =>
        simp only [Option.some.injEq] at h; subst h
        exact goes_to hR hf hcs hd hres hm ht hR1 (k' := .code body :: .inBlock id :: k') ⟨rfl, rfl, hi2⟩ (by simp [stepG, stepG.exec, hfm, hft])
      | loop body =>
        simp only [Option.some.injEq] at h; subst h
        exact goes_to hR hf hcs hd hres hm ht hR1 (k' := .code body :: .inLoop body :: k') ⟨rfl, rfl, hi2⟩ (by simp [stepG, stepG.exec, hfm, hft])
      | scope body =>
        simp only [Option.some.injEq] at h; subst h
        exact goes_to hR hf hcs hd hres hm ht hR1 (k' := .code body :: .inScope body :: k') ⟨rfl, rfl, hi2⟩ (by simp [stepG, stepG.exec, hfm, hft])
      | exit id =>
        simp only at h
        obtain ⟨g1, g2⟩ := exitTo_run id hi2
        split at h
        · rename_i k2 hk2
          obtain ⟨k2', e1, e2⟩ := g1 k2 hk2
          simp only [Option.some.injEq] at h; subst h
          exact goes_to hR hf hcs hd hres hm ht hR1 e2 (by simp [stepG, stepG.exec, hfm, hft, e1])
        · rename_i hk2
          exact leave_run hf hm (by rw [htd]; rfl) hcs hd hR hres h (.inr (.inr (.inl ⟨id, _, rfl, hft, g2 hk2⟩)))
      | goto id =>
        simp only at h
        obtain ⟨g1, g2⟩ := gotoIn_run id hi2
        split at h
        · rename_i k2 hk2
          obtain ⟨k2', e1, e2⟩ := g1 k2 hk2
          simp only [Option.some.injEq] at h; subst h
          exact goes_to hR hf hcs hd hres hm ht hR1 e2 (by simp [stepG, stepG.exec, hfm, hft, e1])
        · rename_i hk2
          exact leave_run hf hm (by rw [htd]; rfl) hcs hd hR hres h (.inr (.inr (.inr ⟨id, _, rfl, hft, g2 hk2⟩)))
      | rangeFunc g ps a b =>
        simp only at h
        exact enterLoop_run hE hG hR hf hm ht hR1 hcs hd hres hi2 hft h
      | refuse => cases h
      | region id ops draw =>
        simp only at h
        cases draw with
        | false =>
          simp only [cond_false, Option.some.injEq] at h; subst h
          exact goes_to hR hf hcs hd hres hm ht hR1 (k' := .inRegion ops (List.range ops.size) :: k') ⟨⟨rfl, 0, by rw [List.range_eq_range', Array.length_toList], rfl⟩, hi2⟩ (by simp [stepG, stepG.exec, hfm, hft])
        | true =>
          simp only [cond_true] at h
          split at h
          rotate_left
          · cases h
          rename_i ds hds
          split at h
          rotate_left
          · cases h
          rename_i wt hwt
          simp only [Option.some.injEq] at h; subst h
          have hself := self_atR hfm
          rw [hft] at hself
          have hstep := stepR_region_draw (P := P) (b := fr) (a := ⟨fr.tmps, fr.defers⟩) (k := k') (cs := cs ++ base) (w := w) (ops := ops) (id := id)
          rw [hself] at hstep
          simp only [Region.schedule, hE.mixed, Bool.true_or, if_true] at hstep
          refine ⟨_, cs, _, ρ, .one hstep, ⟨hR.drew, fun _ => False, R2, ⟨hf.fn, hf.kind, by show _ = s.top.mode.conc; rw [hm]; rfl, hf.round, hf.nt, hf.defers, ?_⟩, hcs, fun _ h => h.elim, fun r hr => hres r (.inr (hr.elim (fun h => h.elim) fun h => h))⟩, Ren.le_refl _⟩
          show TodoRel ρ s.top.nt s.top.tm fr.tmps s.top.mode _ _ _
          rw [hm]
          exact .drawn ht.1 (DInv.start hds hwt ht _) hi2
    | inBlock id =>
      obtain ⟨hfm, ht, hi, hR1⟩ := hf.head hm (by rw [htd]; rfl)
      rw [htd] at hi
      obtain ⟨it', k', hft, hi1, hi2⟩ := hi.cons_inv
      simp only [Option.some.injEq] at h; subst h
      cases it' <;> first | exact hi1.elim | skip
      exact goes_to hR hf hcs hd hres hm ht hR1 hi2 (by simp [stepG, stepG.exec, hfm, hft])
    | inScope body =>
      obtain ⟨hfm, ht, hi, hR1⟩ := hf.head hm (by rw [htd]; rfl)
      rw [htd] at hi
      obtain ⟨it', k', hft, hi1, hi2⟩ := hi.cons_inv
      simp only [Option.some.injEq] at h; subst h
      cases it' <;> first | exact hi1.elim | skip
      exact goes_to hR hf hcs hd hres hm ht hR1 hi2 (by simp [stepG, stepG.exec, hfm, hft])
    | inLoop body =>
      obtain ⟨hfm, ht, hi, hR1⟩ := hf.head hm (by rw [htd]; rfl)
      rw [htd] at hi
      obtain ⟨it', k', hft, hi1, hi2⟩ := hi.cons_inv
      simp only [Option.some.injEq] at h; subst h
      cases it' <;> first | exact hi1.elim | skip
      cases hi1
      exact goes_to hR hf hcs hd hres hm ht hR1 (k' := .code body :: .inLoop body :: k') ⟨rfl, rfl, hi2⟩ (by simp [stepG, stepG.exec, hfm, hft])
    | ops ops l =>
      obtain ⟨hfm, ht, hi, hR1⟩ := hf.head hm (by rw [htd]; rfl)
      rw [htd] at hi
      obtain ⟨it', k', hft, hi1, hi2⟩ := hi.cons_inv
      cases it' <;> first | exact hi1.elim | skip
      rename_i ops' rest
      obtain ⟨rfl, j, hj1, hj2⟩ := hi1
      simp only at h
      cases l with
      | nil =>
        simp only [Option.some.injEq] at h; subst h
        simp only [List.length_nil, List.range'_zero] at hj1
        subst hj1
        exact goes_to hR hf hcs hd hres hm ht hR1 hi2 (by simp [stepG, stepG.exec, hfm, hft])
      | cons o l =>
        simp only [List.length_cons, List.range'_succ] at hj1
        subst hj1
        have hoj : ops'[j]? = some o := by
          rw [← Array.getElem?_toList]
          have := congrArg List.head? hj2
          simp only [List.head?_cons, List.head?_drop] at this
          exact this.symm
        have hev := aev_run hG hR (fr := fr) ht
        simp only at h
        split at h
        · rename_i hg
          split at h
          rotate_left
          · cases h
          rename_i nx H' he
          exact op_goes hE hR hf hm hcs hd hres hev he h hft hoj (guard_run (ρ := ρ) (fun t v e => hev (.tmp t) v e) hg)
        · rename_i hg
          exact op_skip hR hf hm hcs hd hres h hft hoj (guard_run (ρ := ρ) (fun t v e => hev (.tmp t) v e) hg)
        · cases h
    | endRangeFunc l =>
      obtain ⟨hfm, ht, hi, hR1⟩ := hf.head hm (by rw [htd]; rfl)
      rw [htd] at hi
      obtain ⟨it', k', hft, hi1, hi2⟩ := hi.cons_inv
      cases it' <;> first | exact hi1.elim | skip
      obtain ⟨lo, hl, rfl⟩ := hi1
      simp only at h
      split at h
      rotate_left
      · cases h
      rename_i st0 pend fn nt tm ps a b ds hg
      obtain ⟨ld, tmps, o1, o2, o3⟩ := hR.loopAt hl hg
      have hnc : ∀ c e f, (Obj.loop { state := st0, pending := pend, fn, tmps, params := ps, assign := a, body := b, defers := ld.b }) ≠ .cells c e f := fun _ _ _ h => by cases h
      rcases bif_some h with ⟨_, h⟩ | ⟨hb, h⟩
      · cases h
      cases h
      have hend : (Instr.endLoop lo.b).run P w = .ok pend (World.setBlk w lo.b (.loop { state := .exhausted, pending := pend, fn, tmps, params := ps, assign := a, body := b, defers := ld.b })) := by
        simp only [Instr.endLoop, Instr.getLoop, Sem.run_bind, run_getObj o3 hnc, Result.andThen_ok, Sem.run_pure, hb]
        simp only [Bool.false_eq_true, if_false, Sem.run_bind, Sem.run_pure, Result.andThen_ok, run_setObj o3 hnc]
      refine ⟨{ fr with todo := (pend.map Item.code).toList ++ k' }, cs, _, ρ, .one (step_lone_go ?_), ⟨hR.setLoop hl hg o1 o2 .exhausted pend, R1, R2, hf.to hm ht hR1 ?_, hcs, hd, hres⟩, Ren.le_refl _⟩
      · simp [stepG, stepG.exec, hfm, hft, Sem.runT_eq, hend]
      · cases pend with
        | none => exact hi2
        | some c => exact ⟨rfl, hi2⟩
    | beginRound =>
      obtain ⟨hfm, ht, hi, hR1⟩ := hf.head hm (by rw [htd]; rfl)
      rw [htd] at hi
      obtain ⟨it', k', hft, hi1, hi2⟩ := hi.cons_inv
      cases it' <;> first | exact hi1.elim | skip
      simp only at h
      split at h
      rotate_left
      · cases h
      rename_i l hrn
      have hro := hf.round
      rw [hrn] at hro
      obtain ⟨l', hrf⟩ : ∃ l', fr.roundOf = some l' := by
        cases hq : fr.roundOf with
        | none => rw [hq] at hro; exact hro.elim
        | some x => exact ⟨x, rfl⟩
      rw [hrf] at hro
      obtain ⟨lo, hl, rfl⟩ := hro
      split at h
      rotate_left
      · cases h
      rename_i st0 pend fn nt tm ps a b ds hg
      split at h
      rotate_left
      · cases h
      obtain ⟨ld, tmps, o1, o2, o3⟩ := hR.loopAt hl hg
      have hnc : ∀ c e f, (Obj.loop { state := .ready, pending := pend, fn, tmps, params := ps, assign := a, body := b, defers := ld.b }) ≠ .cells c e f := fun _ _ _ h => by cases h
      have hbeg : (Instr.beginRound lo.b).run P w = .ok () (World.setBlk w lo.b (.loop { state := .busy, pending := pend, fn, tmps, params := ps, assign := a, body := b, defers := ld.b })) := by
        simp only [Instr.beginRound, Instr.getLoop, Sem.run_bind, run_getObj o3 hnc, Result.andThen_ok, Sem.run_pure, run_setObj o3 hnc]
      obtain ⟨fr', cs', w', ρ', g1, g2, g3⟩ := apply_run hE hR hf hm hcs hd hres (s := do Instr.beginRound lo.b; pure .skip) (nx := .skip) (H' := s.H.set l (.loop .busy pend fn nt tm ps a b ds))
        ⟨ρ, _, .skip, by simp [hbeg], trivial, hR.setLoop hl hg o1 o2 .busy pend, Ren.ext_refl _ _, Nat.le_refl _⟩ h base
      refine ⟨fr', cs', w', ρ', .one (step_lone_go ?_), g2, g3⟩
      rw [← g1]
      simp [stepG, stepG.exec, hfm, hft, hrf]

theorem Goes.trans {s1 s2 : AState} {fr : Frame} {cs : List Frame} (h : Goes P B W G base ρ fr cs w s1) (h2 : ∀ {ρ1 : Ren} {fr1 : Frame} {cs1 : List Frame} {w1 : World}, StRel B W G ρ1 s1 fr1 cs1 w1 → Goes P B W G base ρ1 fr1 cs1 w1 s2) :
    Goes P B W G base ρ fr cs w s2 := by
  obtain ⟨fr1, cs1, w1, ρ1, a1, a2, a3⟩ := h
  obtain ⟨fr2, cs2, w2, ρ2, b1, b2, b3⟩ := h2 a2
  exact ⟨fr2, cs2, w2, ρ2, Steps.trans a1 b1, b2, Ren.le_trans a3 b3⟩

/-- MANY STEPS. -/
theorem arun_run (hE : E.Ok P) (hG : E.gl ≤ G) : ∀ {n : Nat} {s s' : AState}, arun E n s = some s' → ∀ {ρ : Ren} {fr : Frame} {cs : List Frame} {w : World}, StRel B W G ρ s fr cs w → Goes P B W G base ρ fr cs w s'
  | 0, s, s', h, ρ, fr, cs, w, hst => by cases h; exact ⟨fr, cs, w, ρ, .refl _ _, hst, Ren.le_refl _⟩
  | n + 1, s, s', h, ρ, fr, cs, w, hst => by
    simp only [arun] at h
    split at h
    rotate_left
    · cases h
    rename_i s1 h1
    exact (astep_run hE hG hst h1).trans fun h2 => arun_run hE hG h h2

/-- The end of a call. -/
def afinal (E : Env) (g : FuncId) (s : AState) : Option (AV × AHeap) := match s.callers, s.top.mode, s.top.defers with
  | [], .returning, [] => bif Nat.beq s.top.fn g && !s.top.deferred then (match E.fn.get g with
    | some x => match aresults E s.H s.top.tm x.results.toList with
      | some vs => some (aone vs, s.H)
      | none => none
    | none => none) else none
  | _, _, _ => none

/-- A CALL: begun, run, at its end. -/
theorem calls_run (hE : E.Ok P) (hG : E.gl ≤ G) (hR : Rel B W G ρ H w) {g : FuncId} {x : Func} (hg : E.fn.get g = some x) {args : List AV} {args' : List Value} (ha : concL ρ args = some args') {f0 : AFrame}
    (he : AFrame.enter g x args false = some f0) {s : AState} (hr : ∀ {base : List Frame} {fr : Frame}, StRel B W G ρ ⟨f0, [], H⟩ fr [] w → Goes P B W G base ρ fr [] w s) {v : AV} {H' : AHeap} (hf : afinal E g s = some (v, H')) :
    Calls P g args'.toArray w fun e w' => ∃ ρ' v', e = .returned v' ∧ conc ρ' v = some v' ∧ Rel B W G ρ' H' w' ∧ ρ.le ρ' := by
  intro base
  have hst : StRel B W G ρ ⟨f0, [], H⟩ (Frame.enter P g args'.toArray .normal) [] w :=
    ⟨hR, _, fun _ => False, enter_run hE hg ha he rfl, fun _ h => h, fun _ h => h.elim, fun r hr => (hr.elim (fun h => h.elim) fun h => h.elim)⟩
  obtain ⟨fr', cs', w', ρ', g1, ⟨g2, R1, R2, g3, g4, _, _⟩, g5⟩ := hr (base := base) hst
  unfold afinal at hf
  split at hf
  rotate_left
  · cases hf
  rename_i hc hm hdf
  rcases bif_some hf with ⟨c, hf⟩ | ⟨_, hf⟩
  rotate_left
  · cases hf
  rw [Bool.and_eq_true] at c
  have c1 := Nat.eq_of_beq_eq_true c.1
  split at hf
  rotate_left
  · cases hf
  rename_i y hy
  split at hf
  rotate_left
  · cases hf
  rename_i vs hvs
  cases hf
  rw [hc] at g4
  have hcs : cs' = [] := by
    cases cs' with
    | nil => rfl
    | cons => exact g4.elim
  subst hcs
  have htm : tmRel ρ' s.top.nt s.top.tm fr'.tmps := by
    have h7 := g3.todo
    rw [hm] at h7
    cases h7 with
    | returning h hR => exact h
  obtain ⟨v', h1, h2⟩ := results_run (P := P) hE g2 htm hvs
  obtain ⟨hfn, _, _⟩ := hE.fn _ y hy
  refine ⟨.returned v', w', fr', ⟨ρ', v', rfl, h2, g2, g5⟩, g1, g3.fn.trans c1, by rw [g3.mode, hm]; rfl, ?_, ?_, y, by rw [g3.fn, c1]; exact hfn, h1⟩
  · have hds := g3.defers
    rw [hdf] at hds
    cases hq : fr'.defers with
    | nil => rfl
    | cons => rw [hq] at hds; exact hds.elim
  · rw [g3.kind]
    have := c.2
    cases hq : s.top.deferred with
    | false => rfl
    | true => rw [hq] at this; cases this
end Go.Am
/- An abstract machine for the model's code, part 31: what is no longer needed, forgotten; a run in pieces. -/
namespace Go.Am
open Go Go.RowKit

variable {E : Env} {P : Program} {B : Nat} {W : World} {G : Nat} {ρ : Ren} {H : AHeap} {w : World} {base : List Frame}

/-- A piece of code, by its place. -/
def codeAt : Code → List Nat → Code
  | c, [] => c
  | .seq a b, i :: p => bif Nat.beq i 0 then codeAt a p else codeAt b p
  | .cond _ a b, i :: p => bif Nat.beq i 0 then codeAt a p else codeAt b p
  | .rangeFunc _ _ a b, i :: p => bif Nat.beq i 0 then codeAt a p else codeAt b p
  | .block _ a, _ :: p => codeAt a p
  | .loop a, _ :: p => codeAt a p
  | .scope a, _ :: p => codeAt a p
  | c, _ :: _ => c

def at_ (f : Func) (p : List Nat) : Code := match f.body with
  | some c => codeAt c p
  | none => .skip

def opsAt (f : Func) (p : List Nat) : Array Oper := match at_ f p with
  | .region _ ops _ => ops
  | _ => #[]

def opAt (ops : Array Oper) (i : Nat) : Oper := ops.toList.getD i default

def keepT {α : Type} (t : T α) : List Nat → T α → T α
  | [], r => r
  | i :: l, r => bif Nat.blt i 8388608 then (match t.get i with
    | some v => keepT t l (r.set deep i v)
    | none => keepT t l r) else keepT t l r

theorem keepT_get {α : Type} (t : T α) : ∀ (l : List Nat) (r : T α), (∀ i v, r.get i = some v → t.get i = some v) → ∀ i v, (keepT t l r).get i = some v → t.get i = some v
  | [], r, h, i, v, e => h i v e
  | j :: l, r, h, i, v, e => by
    simp only [keepT] at e
    cases hb : Nat.blt j 8388608 with
    | false => rw [hb] at e; exact keepT_get t l r h i v e
    | true =>
      rw [hb] at e
      have hb := blt_lt hb
      simp only [cond_true] at e
      cases hj : t.get j with
      | none => rw [hj] at e; exact keepT_get t l r h i v e
      | some x =>
        rw [hj] at e
        refine keepT_get t l _ (fun k u hk => ?_) i v e
        by_cases hkj : k = j
        · subst hkj
          rw [T.get_set_same deep r k x (by have : deep = 24 := rfl; rw [this]; omega)] at hk
          cases hk; exact hj
        · rw [T.get_set_ne _ _ _ _ _ hkj] at hk
          exact h k u hk

def AFrame.forget (f : AFrame) (k : List Nat) : AFrame := { f with tm := keepT f.tm k .e }

def forgets : List AFrame → List (List Nat) → List AFrame
  | f :: l, k :: m => f.forget k :: forgets l m
  | l, _ => l

def AHeap.forget (H : AHeap) (k : List Nat) : AHeap := { next := H.next, t := keepT H.t k .e }

def AState.forget (s : AState) (kt : List Nat) (kts : List (List Nat)) (kh : List Nat) : AState := ⟨s.top.forget kt, forgets s.callers kts, s.H.forget kh⟩

theorem AHeap.forget_get (H : AHeap) (k : List Nat) (i : Nat) : (H.forget k).get i = H.get i ∨ (H.forget k).get i = .dead := by
  unfold AHeap.get AHeap.forget
  cases hq : (keepT H.t k .e).get i with
  | none => right; rfl
  | some v =>
    left
    have := keepT_get H.t k .e (fun i v h => by cases h) i v hq
    simp only [this]

theorem Rel.forget (h : Rel B W G ρ H w) (k : List Nat) : Rel B W G ρ (H.forget k) w := by
  refine ⟨h.frame, fun i l hi => ?_, h.lt, h.at_, fun i l hi hb => ?_, fun i j l m hi hj hij hb hli hlj => ?_, h.glob, h.fits, h.room⟩
  · rcases H.forget_get k i with e | e <;> rw [e]
    · exact h.obj i l hi
    · trivial
  · rcases H.forget_get k i with e | e <;> rw [e]
    · exact h.old i l hi hb
    · rfl
  · have e1 : (H.forget k).get i = H.get i := by
      rcases H.forget_get k i with e | e
      · exact e
      · rw [e] at hli; cases hli
    have e2 : (H.forget k).get j = H.get j := by
      rcases H.forget_get k j with e | e
      · exact e
      · rw [e] at hlj; cases hlj
    unfold Apart
    rw [e1] at hli ⊢
    rw [e2] at hlj ⊢
    exact h.sep i j l m hi hj hij hb hli hlj

theorem tmRel.sub {nt : Nat} {tm tm' : T AV} {tmps : Array Value} (h : tmRel ρ nt tm tmps) (hs : ∀ i v, tm'.get i = some v → tm.get i = some v) : tmRel ρ nt tm' tmps :=
  ⟨h.1, fun t v e => h.2 t v (hs t v e)⟩

theorem DRel.sub {ops : Array Oper} {wt : T Nat} {left : List DOp} {L : Nat} {pend : List Pend} {tm tm' : T AV} {tmps : Array Value} {x : Option Nat} {rest : List Nat} {R : Nat → Prop}
    (h : DRel ρ ops wt left L pend tm tmps x rest R) (hs : ∀ i v, tm'.get i = some v → tm.get i = some v) : DRel ρ ops wt left L pend tm' tmps x rest R := by
  obtain ⟨ms, S, h⟩ := h
  exact ⟨ms, S, { h with htm := fun t v e g => h.htm t v (hs t v e) g, hnt := fun t v e => h.hnt t v (hs t v e) }⟩

theorem FrRel.forget {f : AFrame} {fr : Frame} {R : Nat → Prop} (h : FrRel ρ f fr R) (k : List Nat) : FrRel ρ (f.forget k) fr R := by
  have hs : ∀ i v, (keepT f.tm k .e).get i = some v → f.tm.get i = some v := keepT_get f.tm k .e fun i v h => by cases h
  refine { h with todo := ?_ }
  have h7 := h.todo
  show TodoRel ρ f.nt (keepT f.tm k .e) fr.tmps f.mode f.todo fr.todo R
  generalize f.mode = m at h7 ⊢
  generalize f.todo = a at h7 ⊢
  generalize fr.todo = b at h7 ⊢
  cases h7 with
  | returning h hR => exact .returning (h.sub hs) hR
  | plain h hi hR => exact .plain (h.sub hs) hi hR
  | drawn h hd hi => exact .drawn h (hd.sub hs) hi
  | drawnIn h he hd hi => exact .drawnIn h he (hd.sub hs) hi

theorem StackRel.forget : ∀ {a : List AFrame} {b : List Frame} {R : Nat → Prop} (ks : List (List Nat)), StackRel ρ a b R → StackRel ρ (forgets a ks) b R
  | [], [], _, ks, h => by cases ks <;> exact h
  | f :: l, fr :: m, R, [], h => h
  | f :: l, fr :: m, R, k :: ks, ⟨R1, R2, h1, h2, h3, h4⟩ => ⟨R1, R2, h1.forget k, StackRel.forget ks h2, h3, h4⟩
  | [], _ :: _, _, _, h => h.elim
  | _ :: _, [], _, _, h => h.elim

theorem StRel.forget {s : AState} {fr : Frame} {cs : List Frame} (h : StRel B W G ρ s fr cs w) (kt : List Nat) (kts : List (List Nat)) (kh : List Nat) : StRel B W G ρ (s.forget kt kts kh) fr cs w := by
  obtain ⟨hR, R1, R2, h1, h2, h3, h4⟩ := h
  exact ⟨hR.forget kh, R1, R2, h1.forget kt, h2.forget kts, h3, h4⟩

/-- A piece of a run. -/
def piece (E : Env) (n : Nat) (kt : List Nat) (kts : List (List Nat)) (kh : List Nat) (s : AState) : Option AState := match arun E n s with
  | some s' => some (s'.forget kt kts kh)
  | none => none

/-- A run that is made of pieces. -/
def Runs (E : Env) (s s' : AState) : Prop := ∀ (P : Program) (B : Nat) (W : World) (G : Nat) (base : List Frame) (ρ : Ren) (fr : Frame) (cs : List Frame) (w : World), E.Ok P → E.gl ≤ G → StRel B W G ρ s fr cs w → Goes P B W G base ρ fr cs w s'

theorem Runs.piece {n : Nat} {kt : List Nat} {kts : List (List Nat)} {kh : List Nat} {s s' : AState} (h : piece E n kt kts kh s = some s') : Runs E s s' := by
  intro P B W G base ρ fr cs w hE hG hst
  unfold Am.piece at h
  split at h
  rotate_left
  · cases h
  rename_i x hx
  cases h
  obtain ⟨fr', cs', w', ρ', a, b, c⟩ := arun_run (base := base) hE hG hx hst
  exact ⟨fr', cs', w', ρ', a, b.forget kt kts kh, c⟩

theorem Runs.trans {a b c : AState} (h : Runs E a b) (h2 : Runs E b c) : Runs E a c := fun P B W G base ρ fr cs w hE hG hst =>
  (h P B W G base ρ fr cs w hE hG hst).trans fun hst2 => h2 P B W G base _ _ _ _ hE hG hst2

/-- A CALL, OUT OF A RUN IN PIECES. -/
theorem Runs.calls (hE : E.Ok P) (hG : E.gl ≤ G) (hR : Rel B W G ρ H w) {g : FuncId} {x : Func} (hg : E.fn.get g = some x) {args : List AV} {args' : List Value} (ha : concL ρ args = some args') {f0 : AFrame}
    (he : AFrame.enter g x args false = some f0) {s : AState} (hr : Runs E ⟨f0, [], H⟩ s) {v : AV} {H' : AHeap} (hf : afinal E g s = some (v, H')) :
    Calls P g args'.toArray w fun e w' => ∃ ρ' v', e = .returned v' ∧ conc ρ' v = some v' ∧ Rel B W G ρ' H' w' ∧ ρ.le ρ' :=
  calls_run hE hG hR hg ha he (fun hst => hr P B W G _ _ _ _ _ hE hG hst) hf
end Go.Am
/- An abstract machine for the model's code, part 32: a table's entries; what is to be shown of a table. -/
namespace Go.Am
open Go Go.RowKit

def ents {α : Type} : (Nat → Nat) → T α → List (Nat × α)
  | _, .e => []
  | m, .n l v r => (match v with
    | some x => [(m 0, x)]
    | none => []) ++ (ents (fun j => m (2 * j + 1)) l ++ ents (fun j => m (2 * j + 2)) r)

theorem ents_get {α : Type} : ∀ (t : T α) (m : Nat → Nat) (k : Nat) (v : α), t.get k = some v → (m k, v) ∈ ents m t
  | .e, m, k, v, h => by cases h
  | .n l w r, m, k, v, h => by
    simp only [T.get] at h
    simp only [ents]
    cases h0 : Nat.beq k 0 with
    | true =>
      rw [h0] at h
      simp only [cond_true] at h
      obtain rfl := Nat.eq_of_beq_eq_true h0
      subst h
      simp
    | false =>
      rw [h0] at h
      have hk : k ≠ 0 := fun e => by subst e; cases h0
      simp only [cond_false] at h
      cases h1 : Nat.beq (Nat.mod k 2) 1 with
      | true =>
        rw [h1] at h
        simp only [cond_true] at h
        have h1 : k % 2 = 1 := Nat.eq_of_beq_eq_true h1
        have := ents_get l (fun j => m (2 * j + 1)) _ v h
        have e : 2 * (Nat.div k 2) + 1 = k := by show 2 * (k / 2) + 1 = k; omega
        simp only [e] at this
        exact List.mem_append_right _ (List.mem_append_left _ this)
      | false =>
        rw [h1] at h
        simp only [cond_false] at h
        have h1 : k % 2 ≠ 1 := fun e => by rw [show Nat.mod k 2 = 1 from e] at h1; cases h1
        have := ents_get r (fun j => m (2 * j + 2)) _ v h
        have e : 2 * (Nat.sub (Nat.div k 2) 1) + 2 = k := by show 2 * (k / 2 - 1) + 2 = k; omega
        simp only [e] at this
        exact List.mem_append_right _ (List.mem_append_right _ this)

def noRen : Ren := fun _ => none

theorem noRen_le (ρ : Ren) : noRen.le ρ := fun _ _ h => by cases h

/-- What is to be shown of a program's tables. -/
theorem Env.Ok.of {E : Env} {P : Program} (hfn : (ents id E.fn).map (fun q => P.funcs[q.1]?) = (ents id E.fn).map fun q => some q.2)
    (hfn2 : ((ents id E.fn).all fun q => !(q.2.name == "runtime.NumGoroutine") && !q.2.body.isNone) = true)
    (hty : (ents id E.ty).map (fun q => (P.underlying q.1, (P.info? q.1).map fun i => (i.size, i.bytes, i.zero))) = (ents id E.ty).map fun q => (some q.2.desc, some (q.2.size, q.2.bytes, conc noRen q.2.zero)))
    (hty2 : ((ents id E.ty).all fun q => (conc noRen q.2.zero).isSome) = true)
    (hext : ∀ q ∈ ents id E.ext, ∃ fn : Func, P.funcs[q.1]? = some fn ∧ (fn.name == "runtime.NumGoroutine") = false ∧ fn.body.isNone = true ∧ Extern.findNext fn = none ∧ Extern.find fn = some q.2.entry)
    (hlies : (E.lies.all fun q => liesAt P P.depth q.1 (q.2.1 / P.cellsOf q.1) q.2.2.1 q.2.2.2 1) = true) (hmix : P.follows .mixedOrders = true) : E.Ok P := by
  rw [List.map_inj_left] at hfn hty
  rw [List.all_eq_true] at hfn2 hty2 hlies
  refine ⟨fun f x h => ?_, fun t x h => ?_, fun f x h => ?_, fun e n o u h => ?_, hmix⟩
  · have hm := ents_get E.fn id f x h
    have h2 := hfn2 _ hm
    simp only [Bool.and_eq_true, Bool.not_eq_true'] at h2
    exact ⟨hfn _ hm, h2.1, h2.2⟩
  · have hm := ents_get E.ty id t x h
    have h1 := hty _ hm
    simp only [id, Prod.mk.injEq] at h1
    obtain ⟨h1, h3⟩ := h1
    refine ⟨h1, ?_⟩
    cases hi : P.info? t with
    | none => rw [hi] at h3; cases h3
    | some i =>
      rw [hi] at h3
      simp only [Option.map_some, Option.some.injEq, Prod.mk.injEq] at h3
      obtain ⟨a, b, c⟩ := h3
      cases hz : conc noRen x.zero with
      | none =>
        have := hty2 _ hm
        rw [show (id t, x).2.zero = x.zero from rfl, hz] at this; cases this
      | some zv =>
        refine ⟨i, zv, rfl, a, b, by rw [c]; exact hz, fun ρ => conc_mono (noRen_le ρ) _ _ hz⟩
  · exact hext _ (ents_get E.ext id f x h)
  · exact hlies _ h

theorem all_nil {α : Type} {p : α → Prop} : ∀ q ∈ ([] : List α), p q := fun _ h => by cases h
theorem all_cons {α : Type} {p : α → Prop} {a : α} {l : List α} (h : p a) (t : ∀ q ∈ l, p q) : ∀ q ∈ a :: l, p q := fun q hq => by
  rcases List.mem_cons.1 hq with rfl | hq
  · exact h
  · exact t q hq
end Go.Am
/- An abstract machine for the model's code, part 33: a world at a call's begin: the variables of the packages, tables among them. -/
namespace Go.Am
open Go Go.RowKit

variable {E : Env} {P : Program} {w : World}

def ren0 (G : Nat) : Ren := fun i => if i < G then some ⟨i, 0, 0⟩ else none

theorem Rel.start {H : AHeap} {G : Nat} (hn : H.next = G) (hG : G ≤ w.heap.size) (hroom : H.next + 1 < 2 ^ deep)
    (hget : ∀ i, i < G → H.get i = .dead ∨ ∃ cs, H.get i = .tab cs ∧ ∀ (k : Nat) (v : AV), cs[k]? = some v → ∃ v', conc noRen v = some v' ∧ w.cell? ⟨i, k, none⟩ = some v') :
    Rel w.heap.size w G (ren0 G) H w := by
  have hc : ∀ i l, ren0 G i = some l → i < G ∧ l = ⟨i, 0, 0⟩ := by
    intro i l h
    simp only [ren0] at h
    split at h
    · rename_i hi; exact ⟨hi, by cases h; rfl⟩
    · cases h
  refine ⟨Below.refl _ _, fun i l hi => ?_, fun i l hi => ?_, fun i l hi => ?_, fun i l hi _ => ?_, fun i j l m hi hj hij hb => ?_, fun g hg => ⟨0, by simp [ren0, hg]⟩, Nat.le_refl _, hroom⟩
  · obtain ⟨h1, rfl⟩ := hc i l hi
    rcases hget i h1 with h | ⟨cs, h, h2⟩ <;> rw [h]
    · trivial
    · exact ⟨rfl, fun k v e => let ⟨v', a, b⟩ := h2 k v e; ⟨v', conc_mono (noRen_le _) _ _ a, b⟩⟩
  · rw [hn]; exact (hc i l hi).1
  · obtain ⟨h1, rfl⟩ := hc i l hi
    exact Nat.lt_of_lt_of_le h1 hG
  · obtain ⟨h1, rfl⟩ := hc i l hi
    rcases hget i h1 with h | ⟨cs, h, _⟩ <;> rw [h] <;> rfl
  · obtain ⟨_, rfl⟩ := hc i l hi
    obtain ⟨_, rfl⟩ := hc j m hj
    exact absurd hb hij

/-- A CLOSED RUN: what a call without arguments answers. -/
theorem Runs.closed (hE : E.Ok P) {H : AHeap} {G : Nat} (hgl : E.gl ≤ G) (hR : Rel w.heap.size w G (ren0 G) H w) {g : FuncId} {x : Func} (hg : E.fn.get g = some x) {f0 : AFrame} (he : AFrame.enter g x [] false = some f0)
    {s : AState} (hr : Runs E ⟨f0, [], H⟩ s) {b : Bool} (hf : (afinal E g s).map (·.1) = some (.bool b)) :
    Calls P g #[] w fun e w' => e = .returned (.bool b) ∧ Below w.heap.size w w' := by
  cases hq : afinal E g s with
  | none => rw [hq] at hf; cases hf
  | some q =>
    obtain ⟨v, H'⟩ := q
    rw [hq] at hf
    simp only [Option.map_some, Option.some.injEq] at hf
    subst hf
    refine (Runs.calls hE hgl hR hg (args := []) (args' := []) rfl he hr hq).mono fun e w' h => ?_
    obtain ⟨ρ', v', h1, h2, h3, _⟩ := h
    cases conc_bool h2
    exact ⟨h1, h3.frame⟩
end Go.Am
/- An abstract machine for the model's code, part 34: a world at a call's begin, one block more known. -/
namespace Go.Am
open Go Go.RowKit

variable {E : Env} {P : Program} {w : World}

def ren1 (G b : Nat) : Ren := fun i => if i < G then some ⟨i, 0, 0⟩ else if i = G then some ⟨b, 0, 0⟩ else none

theorem Rel.start1 {H : AHeap} {G b : Nat} {cs : List AV} (hn : H.next = G + 1) (hG : G ≤ w.heap.size) (hb : b < w.heap.size) (hroom : H.next + 1 < 2 ^ deep) (hdead : ∀ i, i < G → H.get i = .dead) (ht : H.get G = .tab cs)
    (hcells : ∀ (k : Nat) (v : AV), cs[k]? = some v → ∃ v', conc noRen v = some v' ∧ w.cell? ⟨b, k, none⟩ = some v') : Rel w.heap.size w G (ren1 G b) H w := by
  have hc : ∀ i l, ren1 G b i = some l → (i < G ∧ l = ⟨i, 0, 0⟩) ∨ (i = G ∧ l = ⟨b, 0, 0⟩) := by
    intro i l h
    simp only [ren1] at h
    split at h
    · rename_i hi; exact .inl ⟨hi, by cases h; rfl⟩
    · split at h
      · rename_i hi; exact .inr ⟨hi, by cases h; rfl⟩
      · cases h
  refine ⟨Below.refl _ _, fun i l hi => ?_, fun i l hi => ?_, fun i l hi => ?_, fun i l hi _ => ?_, fun i j l m hi hj hij hb hli hlj => ?_, fun g hg => ⟨0, by simp [ren1, hg]⟩, Nat.le_refl _, hroom⟩
  · rcases hc i l hi with ⟨h1, rfl⟩ | ⟨rfl, rfl⟩
    · rw [hdead i h1]; trivial
    · rw [ht]; exact ⟨rfl, fun k v e => let ⟨v', a, b⟩ := hcells k v e; ⟨v', conc_mono (noRen_le _) _ _ a, b⟩⟩
  · rcases hc i l hi with ⟨h1, rfl⟩ | ⟨rfl, rfl⟩ <;> omega
  · rcases hc i l hi with ⟨h1, rfl⟩ | ⟨rfl, rfl⟩
    · exact Nat.lt_of_lt_of_le h1 hG
    · exact hb
  · rcases hc i l hi with ⟨h1, rfl⟩ | ⟨rfl, rfl⟩
    · rw [hdead i h1]; rfl
    · rw [ht]; rfl
  · rcases hc i l hi with ⟨h1, rfl⟩ | ⟨rfl, rfl⟩
    · rw [hdead i h1] at hli; cases hli
    · rcases hc j m hj with ⟨h2, rfl⟩ | ⟨rfl, rfl⟩
      · rw [hdead j h2] at hlj; cases hlj
      · exact absurd rfl hij

/-- A run to a call's end. -/
def arunF (E : Env) (g : FuncId) : Nat → AState → Option (AV × AHeap)
  | 0, _ => none
  | n + 1, s => match afinal E g s with
    | some r => some r
    | none => match astep E s with
      | some s' => arunF E g n s'
      | none => none

theorem arunF_run {g : FuncId} : ∀ {n : Nat} {s : AState} {r : AV × AHeap}, arunF E g n s = some r → ∃ k s', arun E k s = some s' ∧ afinal E g s' = some r
  | n + 1, s, r, h => by
    simp only [arunF] at h
    split at h
    · rename_i x hx; cases h; exact ⟨0, s, rfl, hx⟩
    · split at h
      rotate_left
      · cases h
      rename_i s1 h1
      obtain ⟨k, s', a, b⟩ := arunF_run h
      exact ⟨k + 1, s', by simp only [arun, h1]; exact a, b⟩
end Go.Am
