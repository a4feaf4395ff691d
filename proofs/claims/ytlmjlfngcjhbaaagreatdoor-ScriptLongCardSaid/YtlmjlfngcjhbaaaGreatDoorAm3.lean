/- An abstract machine for the model's code: it runs the code on abstract values; what it answers, the model answers. No condition of its own. -/
import Derived.Test.YtlmjlfngcjhbaaaGreatDoorAm2
import Derived.AtR
import Derived.Orders
set_option linter.unusedSimpArgs false
set_option linter.unusedVariables false
set_option linter.unnecessarySimpa false
/- An abstract machine for the model's code, part 16: maps written, ranges over maps and strings. -/
namespace Go.Am
open Go Go.RowKit

variable {E : Env} {P : Program} {B : Nat} {W : World} {G : Nat} {ρ : Ren} {H : AHeap} {w : World}

/-- What a map's entries stand for. -/
def EntRel (ρ : Ren) : List AEnt → List MapEntry → Prop
  | [], [] => True
  | e :: es, x :: xs => conc ρ e.key = some x.key ∧ conc ρ e.val = some x.val ∧ x.born = e.born ∧ EntRel ρ es xs
  | _, _ => False

theorem EntRel.of_get : ∀ {es : List AEnt} {xs : List MapEntry}, xs.length = es.length → (∀ (k : Nat) (e : AEnt), es[k]? = some e → ∃ a b, conc ρ e.key = some a ∧ conc ρ e.val = some b ∧ xs[k]? = some ⟨a, b, e.born⟩) → EntRel ρ es xs
  | [], [], _, _ => trivial
  | [], _ :: _, h, _ => by simp at h
  | _ :: _, [], h, _ => by simp at h
  | e :: es, x :: xs, h, k => by
    obtain ⟨a, b, h1, h2, h3⟩ := k 0 e rfl
    simp at h3; subst h3
    exact ⟨h1, h2, rfl, EntRel.of_get (by simpa using h) fun j e he => by simpa using k (j + 1) e (by simpa using he)⟩

theorem EntRel.get : ∀ {es : List AEnt} {xs : List MapEntry}, EntRel ρ es xs → xs.length = es.length ∧ ∀ (k : Nat) (e : AEnt), es[k]? = some e → ∃ a b, conc ρ e.key = some a ∧ conc ρ e.val = some b ∧ xs[k]? = some ⟨a, b, e.born⟩
  | [], [], _ => ⟨rfl, fun k e h => by simp at h⟩
  | [], _ :: _, h => h.elim
  | _ :: _, [], h => h.elim
  | e :: es, x :: xs, ⟨h1, h2, h3, h4⟩ => by
    obtain ⟨l, r⟩ := EntRel.get h4
    refine ⟨by simp [l], fun k e' he => ?_⟩
    cases k with
    | zero => simp at he; subst he; exact ⟨_, _, h1, h2, by simp [← h3]⟩
    | succ k => simpa using r k e' (by simpa using he)

theorem EntRel.append : ∀ {es es2 : List AEnt} {xs xs2 : List MapEntry}, EntRel ρ es xs → EntRel ρ es2 xs2 → EntRel ρ (es ++ es2) (xs ++ xs2)
  | [], _, [], _, _, k => k
  | [], _, _ :: _, _, h, _ => h.elim
  | _ :: _, _, [], _, h, _ => h.elim
  | _ :: _, _, _ :: _, _, ⟨h1, h2, h3, h4⟩, k => ⟨h1, h2, h3, h4.append k⟩

theorem EntRel.filter (p : Nat → Bool) : ∀ {es : List AEnt} {xs : List MapEntry}, EntRel ρ es xs → EntRel ρ (es.filter fun e => p e.born) (xs.filter fun x => p x.born)
  | [], [], _ => trivial
  | [], _ :: _, h => h.elim
  | _ :: _, [], h => h.elim
  | e :: es, x :: xs, ⟨h1, h2, h3, h4⟩ => by
    have ih := h4.filter p
    simp only [List.filter_cons, h3]
    cases p e.born
    · exact ih
    · exact ⟨h1, h2, h3, ih⟩

theorem EntRel.all (p : Nat → Bool) : ∀ {es : List AEnt} {xs : List MapEntry}, EntRel ρ es xs → (es.all fun e => p e.born) = (xs.all fun x => p x.born)
  | [], [], _ => rfl
  | [], _ :: _, h => h.elim
  | _ :: _, [], h => h.elim
  | e :: es, x :: xs, ⟨h1, h2, h3, h4⟩ => by simp only [List.all_cons, h3, h4.all p]

theorem EntRel.find (p : Nat → Bool) : ∀ {es : List AEnt} {xs : List MapEntry}, EntRel ρ es xs → ∀ {e : AEnt}, (es.find? fun e => p e.born) = some e → ∃ x, (xs.find? fun x => p x.born) = some x ∧ conc ρ e.key = some x.key ∧ conc ρ e.val = some x.val
  | [], [], _, e, h => by simp at h
  | [], _ :: _, h, _, _ => h.elim
  | _ :: _, [], h, _, _ => h.elim
  | e :: es, x :: xs, ⟨h1, h2, h3, h4⟩, e', h => by
    simp only [List.find?_cons] at h ⊢
    rw [h3]
    cases hp : p e.born with
    | true => rw [hp] at h; simp at h; subst h; exact ⟨x, rfl, h1, h2⟩
    | false => rw [hp] at h; exact h4.find p h

theorem EntRel.set : ∀ {es : List AEnt} {xs : List MapEntry} (j : Nat) (f : AEnt → AEnt) (g : MapEntry → MapEntry), EntRel ρ es xs →
    (∀ e x, conc ρ e.key = some x.key → conc ρ e.val = some x.val → x.born = e.born → conc ρ (f e).key = some (g x).key ∧ conc ρ (f e).val = some (g x).val ∧ (g x).born = (f e).born) → EntRel ρ (es.modify j f) (xs.modify j g)
  | [], [], j, f, g, _, _ => by cases j <;> simp [EntRel]
  | [], _ :: _, _, _, _, h, _ => h.elim
  | _ :: _, [], _, _, _, h, _ => h.elim
  | e :: es, x :: xs, j, f, g, ⟨h1, h2, h3, h4⟩, k => by
    cases j with
    | zero =>
      simp only [List.modify_zero_cons]
      obtain ⟨a, b, c⟩ := k e x h1 h2 h3
      exact ⟨a, b, c, h4⟩
    | succ j =>
      simp only [List.modify_succ_cons]
      exact ⟨h1, h2, h3, h4.set j f g k⟩

theorem EntRel.erase : ∀ {es : List AEnt} {xs : List MapEntry} (j : Nat), EntRel ρ es xs → EntRel ρ (es.eraseIdx j) (xs.eraseIdx j)
  | [], [], j, _ => trivial
  | [], _ :: _, _, h => h.elim
  | _ :: _, [], _, h => h.elim
  | e :: es, x :: xs, j, ⟨h1, h2, h3, h4⟩ => by
    cases j with
    | zero => exact h4
    | succ j => exact ⟨h1, h2, h3, h4.erase j⟩

/-- What is known of a map's block. -/
theorem Rel.mapAt (h : Rel B W G ρ H w) {i : Nat} {l : Loc} (hi : ρ i = some l) {es : List AEnt} {clock : Nat} (hg : H.get i = .map es clock) :
    ∃ es' : Array MapEntry, w.heap[l.b]? = some (.map es' clock) ∧ EntRel ρ es es'.toList := by
  have ho := h.obj i l hi
  rw [hg] at ho
  obtain ⟨es', o1, o2, o3⟩ := ho
  exact ⟨es', o1, EntRel.of_get (by simpa using o2) fun k e he => by simpa using o3 k e he⟩

theorem map_rel {l : Loc} {es : List AEnt} {clock : Nat} {es' : Array MapEntry} (h1 : w.heap[l.b]? = some (.map es' clock)) (h2 : EntRel ρ es es'.toList) : objRel ρ w l (.map es clock) := by
  obtain ⟨a, b⟩ := h2.get
  exact ⟨es', h1, by simpa using a, fun k e he => by simpa using b k e he⟩

theorem run_getObj {r : Nat} {o : Obj} (h : w.heap[r]? = some o) (hc : ∀ c e f, o ≠ .cells c e f) : (getObj r).run P w = .ok o w := by
  cases o <;> first | exact absurd rfl (hc _ _ _) | (simp only [getObj, Sem.run, h]; done) | (simp only [getObj, Sem.run, h]; rfl)

theorem run_setObj {r : Nat} {o o' : Obj} (h : w.heap[r]? = some o) (hc : ∀ c e f, o ≠ .cells c e f) : (setObj r o').run P w = .ok () (World.setBlk w r o') := by
  cases o <;> first | exact absurd rfl (hc _ _ _) | (simp only [setObj, Sem.run, h]; done) | (simp only [setObj, Sem.run, h]; rfl) | (simp only [setObj, Sem.run, h, World.setBlk])

/-- A map of the call's own, written. -/
theorem Rel.setMap (h : Rel B W G ρ H w) {i : Nat} {l : Loc} (hi : ρ i = some l) {es : List AEnt} {clock : Nat} (hg : H.get i = .map es clock) {es2 : List AEnt} {clock2 : Nat} {xs : Array MapEntry} (hx : EntRel ρ es2 xs.toList) :
    Rel B W G ρ (H.set i (.map es2 clock2)) (World.setBlk w l.b (.map xs clock2)) := by
  have hb := h.at_ i l hi
  have := h.upd (w' := World.setBlk w l.b (.map xs clock2)) hi (by rw [hg]; rfl) (by rw [hg]; rfl) (by rw [hg]; rfl) rfl rfl rfl (setBlk_size _ _ _) (fun k hk => setBlk_other _ _ _ _ hk)
    (o := .map es2 clock2) (map_rel (setBlk_same _ _ _ hb) hx)
  rw [hg] at this
  exact this

/-- A new map. -/
def amakeMap (H : AHeap) (r : Option Operand) : Option (AV × AHeap) :=
  match r with
  | none => bif H.roomy then some (.map H.next, H.push (.map [] 0)) else none
  | some _ => none

theorem amakeMap_run (hR : Rel B W G ρ H w) {t : TypeId} {r : Option Operand} {v : AV} {H' : AHeap} (h : amakeMap H r = some (v, H')) (cev : Operand → Value) :
    ∃ ρ' w' v', (Instr.makeMap t (r.map cev)).run P w = .ok v' w' ∧ conc ρ' v = some v' ∧ Rel B W G ρ' H' w' ∧ ρ.ext H.next ρ' ∧ H.next ≤ H'.next := by
  unfold amakeMap at h
  split at h
  rotate_left
  · cases h
  rcases bif_some h with ⟨c, h2⟩ | ⟨_, h2⟩
  rotate_left
  · cases h2
  cases h2
  refine ⟨_, _, .map (some w.heap.size), ?_, ?_, hR.new (ob := .map #[] 0) (C := 0) (roomy_lt c) ?_, Ren.put_ext _ _ _, Nat.le_succ _⟩
  · simp [Instr.makeMap]
  · simp [conc, Ren.put_same]
  · exact ⟨#[], alloc_new _ _, rfl, fun k e he => by simp at he⟩

def keyKinds (E : Env) (t : TypeId) (k : AV) : Option TypeDesc :=
  match E.ty.get t with
  | some i => match i.desc with
    | .map kt _ => match E.ty.get kt with
      | some ki => bif akeyOk ki.desc k then some ki.desc else none
      | none => none
    | _ => none
  | none => none

theorem keyKinds_run (hE : E.Ok P) {t : TypeId} {k : AV} {d : TypeDesc} (h : keyKinds E t k = some d) {k' : Value} (hk : conc ρ k = some k') :
    ∃ kt et, P.underlying t = some (.map kt et) ∧ P.underlying kt = some d ∧ ∀ n w, (Instr.checkKey n 10000 kt k').run P w = .ok () w := by
  unfold keyKinds at h
  split at h
  rotate_left
  · cases h
  rename_i i hi
  have hu := (hE.ty t i hi).1
  split at h
  rotate_left
  · cases h
  rename_i kt et hd
  rw [hd] at hu
  split at h
  rotate_left
  · cases h
  rename_i ki hki
  have huk := (hE.ty kt ki hki).1
  rcases bif_some h with ⟨c, h2⟩ | ⟨_, h2⟩
  rotate_left
  · cases h2
  cases h2
  refine ⟨kt, et, hu, huk, ?_⟩
  unfold akeyOk at c
  cases hq : akeyEq ki.desc k k with
  | none => rw [hq] at c; cases c
  | some b => exact fun n w => (akeyEq_run (P := P) hq hk hk).2 n kt w huk

theorem sameBits_key {d : TypeDesc} {a b : AV} (h : akeyEq d a b = some true) {a' b' : Value} (ha : conc ρ a = some a') (hb : conc ρ b = some b') (n : Nat) : Instr.sameBits n b' a' = true := by
  unfold akeyEq at h
  split at h
  · split at h
    · rcases bif_some h with ⟨c, h2⟩ | ⟨_, h2⟩
      · cases conc_int ha; cases conc_int hb
        simp only [decide_eq_true_eq] at c; subst c
        simp at h2; subst h2
        cases n <;> simp [Instr.sameBits]
      · cases h2
    · cases h
  · split at h
    · cases conc_str ha; cases conc_str hb
      simp at h; subst h
      cases n <;> simp [Instr.sameBits, beq_toListBytes]
    · cases h
  · split at h
    · cases conc_bool ha; cases conc_bool hb
      simp at h; subst h
      cases n <;> simp [Instr.sameBits]
    · cases h
  · cases h

/-- m[k] = v. -/
def amapUpdate (E : Env) (H : AHeap) (t : TypeId) (m k v : AV) : Option AHeap :=
  match m, keyKinds E t k with
  | .map i, some d => match H.get i with
    | .map es clock => match afind d k es 0 with
      | some (some (j, _)) => some (H.set i (.map (es.modify j fun e => { e with key := k, val := v }) clock))
      | some none => some (H.set i (.map (es ++ [{ key := k, val := v, born := clock }]) (clock + 1)))
      | none => none
    | _ => none
  | _, _ => none

theorem amapUpdate_run (hE : E.Ok P) (hR : Rel B W G ρ H w) {t : TypeId} {m k v : AV} {H' : AHeap} (h : amapUpdate E H t m k v = some H') {m' k' v' : Value} (hm : conc ρ m = some m') (hk : conc ρ k = some k') (hv : conc ρ v = some v') :
    ∃ w', (Instr.mapUpdate t m' k' v').run P w = .ok () w' ∧ Rel B W G ρ H' w' ∧ H'.next = H.next := by
  unfold amapUpdate at h
  split at h
  rotate_left
  · cases h
  rename_i i d hd
  obtain ⟨kt, et, hu, huk, hck⟩ := keyKinds_run hE hd hk
  split at h
  rotate_left
  · cases h
  rename_i es clock hg
  obtain ⟨l, hl, rfl⟩ := conc_map hm
  obtain ⟨es', g1, g2⟩ := hR.mapAt hl hg
  obtain ⟨gl, gg⟩ := g2.get
  have hnc : ∀ c e f, (Obj.map es' clock) ≠ .cells c e f := fun _ _ _ h => by cases h
  split at h
  · rename_i j e hf
    cases h
    obtain ⟨b, f1, f2, f3, f4, f5⟩ := afind_run (k' := k') hk 0 hf gl gg
    have hj : es[j]? = some e := by simpa using f4
    obtain ⟨a0, b0, q1, q2, q3⟩ := gg j e hj
    have hfk := findKey_run (P := P) huk f2 w
    have hold : (es'[j]?).map (·.key) = some a0 := by
      have : es'[j]? = some ⟨a0, b0, e.born⟩ := by simpa using q3
      rw [this]; rfl
    refine ⟨_, ?_, hR.setMap hl hg (xs := es'.modify j fun x => { x with key := k', val := v' }) ?_, rfl⟩
    · simp only [Instr.mapUpdate, Sem.run_bind, run_underlying hu, Result.andThen_ok, run_getObj g1 hnc, hck, hfk, hold, Option.getD_some, Instr.keyThatStays, sameBits_key f5 hk q1, if_true, Sem.run_pure]
      rw [run_setObj g1 hnc]
    · rw [Array.toList_modify]
      exact g2.set j _ _ (fun e x _ _ hb => ⟨hk, hv, hb⟩)
  · rename_i hf
    cases h
    have hf' := afind_run (k' := k') hk 0 hf gl gg
    have hfk := findKey_run (P := P) huk (show Instr.findNow d k' es'.toList 0 = some none from hf') w
    refine ⟨_, ?_, hR.setMap hl hg (xs := es'.push { key := k', val := v', born := clock }) ?_, rfl⟩
    · simp only [Instr.mapUpdate, Sem.run_bind, run_underlying hu, Result.andThen_ok, run_getObj g1 hnc, hck, hfk]
      rw [run_setObj g1 hnc]
    · rw [Array.toList_push]
      exact g2.append ⟨hk, hv, rfl, trivial⟩
  · cases h

/-- delete(m, k). -/
def adelete (E : Env) (H : AHeap) (ts : Array TypeId) (m k : AV) : Option AHeap :=
  match ts.toList with
  | t :: _ => match m, keyKinds E t k with
    | .nilmap, some _ => some H
    | .map i, some d => match H.get i with
      | .map es clock => match afind d k es 0 with
        | some (some (j, _)) => some (H.set i (.map (es.eraseIdx j) clock))
        | some none => some (H.set i (.map es clock))
        | none => none
      | _ => none
    | _, _ => none
  | [] => none

theorem adelete_run (hE : E.Ok P) (hR : Rel B W G ρ H w) {ts : Array TypeId} {m k : AV} {H' : AHeap} (h : adelete E H ts m k = some H') {m' k' : Value} (hm : conc ρ m = some m') (hk : conc ρ k = some k') (ty : TypeId) :
    ∃ w', (Builtin.delete_ ts ty #[m', k']).run P w = .ok (.tuple #[]) w' ∧ Rel B W G ρ H' w' ∧ H'.next = H.next := by
  unfold adelete at h
  split at h
  rotate_left
  · cases h
  rename_i t tl hts
  have h0 : ts[0]? = some t := by rw [← Array.getElem?_toList, hts]; rfl
  have h2 : (#[m', k'] : Array Value)[0]? = some m' := rfl
  have h3 : (#[m', k'] : Array Value)[1]? = some k' := rfl
  split at h
  · rename_i d hd
    obtain ⟨kt, et, hu, huk, hck⟩ := keyKinds_run hE hd hk
    cases h; cases conc_nilmap hm
    exact ⟨w, by simp only [Builtin.delete_, h0, h2, h3, Sem.run_bind, run_underlying hu, Result.andThen_ok, hck, Sem.run_pure], hR, rfl⟩
  · rename_i i d hd
    obtain ⟨kt, et, hu, huk, hck⟩ := keyKinds_run hE hd hk
    split at h
    rotate_left
    · cases h
    rename_i es clock hg
    obtain ⟨l, hl, rfl⟩ := conc_map hm
    obtain ⟨es', g1, g2⟩ := hR.mapAt hl hg
    obtain ⟨gl, gg⟩ := g2.get
    have hnc : ∀ c e f, (Obj.map es' clock) ≠ .cells c e f := fun _ _ _ h => by cases h
    split at h
    · rename_i j e hf
      cases h
      obtain ⟨b, f1, f2, f3, f4, f5⟩ := afind_run (k' := k') hk 0 hf gl gg
      have hfk := findKey_run (P := P) huk f2 w
      refine ⟨_, ?_, hR.setMap hl hg (xs := es'.eraseIdxIfInBounds j) ?_, rfl⟩
      · simp only [Builtin.delete_, h0, h2, h3, Sem.run_bind, run_underlying hu, Result.andThen_ok, run_getObj g1 hnc, hck, hfk, run_setObj g1 hnc, Sem.run_pure]
      · have : (es'.eraseIdxIfInBounds j).toList = es'.toList.eraseIdx j := by
          by_cases hj : j < es'.size
          · simp [Array.eraseIdxIfInBounds, hj]
          · simp only [Array.eraseIdxIfInBounds, hj, dif_neg, not_false_eq_true]
            rw [List.eraseIdx_of_length_le (by simpa using hj)]
        rw [this]; exact g2.erase j
    · rename_i hf
      cases h
      have hf' := afind_run (k' := k') hk 0 hf gl gg
      have hfk := findKey_run (P := P) huk (show Instr.findNow d k' es'.toList 0 = some none from hf') w
      refine ⟨_, ?_, hR.setMap hl hg g2, rfl⟩
      simp only [Builtin.delete_, h0, h2, h3, Sem.run_bind, run_underlying hu, Result.andThen_ok, run_getObj g1 hnc, hck, hfk, run_setObj g1 hnc, Sem.run_pure]
    · cases h
  · cases h

end Go.Am
/- An abstract machine for the model's code, part 17: ranges, the model's own functions. -/
namespace Go.Am
open Go Go.RowKit

variable {E : Env} {P : Program} {B : Nat} {W : World} {G : Nat} {ρ : Ren} {H : AHeap} {w : World}

/-- An object of the call's own that is no row, written. -/
theorem Rel.setObj (h : Rel B W G ρ H w) {i : Nat} {l : Loc} (hi : ρ i = some l) (hl : (H.get i).live = true) (hown : (H.get i).own = true) (hro : (H.get i).ro = false) (hst : (H.get i).stale = []) {o : AObj} {ob : Obj}
    (ho : objRel ρ (World.setBlk w l.b ob) l o) : Rel B W G ρ (H.set i o) (World.setBlk w l.b ob) := by
  have := h.upd (w' := World.setBlk w l.b ob) hi hl hown hro rfl rfl rfl (setBlk_size _ _ _) (fun k hk => setBlk_other _ _ _ _ hk) (o := o) ho
  rw [hst] at this
  exact this

def arange (E : Env) (H : AHeap) (t : TypeId) (x : AV) : Option (AV × AHeap) :=
  match E.ty.get t with
  | some i => bif H.roomy then (match i.desc, x with
    | .string, .str s => some (.ptr H.next 0, H.push (.strIter s 0))
    | .map _ _, .nilmap => some (.ptr H.next 0, H.push (.mapIter none 0 [] 0))
    | .map _ _, .map m => match H.get m with
      | .map _ clock => some (.ptr H.next 0, H.push (.mapIter (some m) clock [] clock))
      | _ => none
    | _, _ => none) else none
  | none => none

theorem arange_run (hE : E.Ok P) (hR : Rel B W G ρ H w) {t : TypeId} {x v : AV} {H' : AHeap} (h : arange E H t x = some (v, H')) {x' : Value} (hx : conc ρ x = some x') :
    ∃ ρ' w' v', (Instr.range t x').run P w = .ok v' w' ∧ conc ρ' v = some v' ∧ Rel B W G ρ' H' w' ∧ ρ.ext H.next ρ' ∧ H.next ≤ H'.next := by
  unfold arange at h
  split at h
  rotate_left
  · cases h
  rename_i i hi
  have hu := (hE.ty t i hi).1
  rcases bif_some h with ⟨c, h2⟩ | ⟨_, h2⟩
  rotate_left
  · cases h2
  split at h2
  · rename_i s hd
    rw [hd] at hu
    cases h2; cases conc_str hx
    refine ⟨_, _, .pointer (some ⟨w.heap.size, 0, none⟩), ?_, ?_, hR.new (ob := .stringIter ⟨s.toArray⟩ 0) (C := 0) (roomy_lt c) ?_, Ren.put_ext _ _ _, Nat.le_succ _⟩
    · simp [Instr.range, run_underlying hu]
    · simp [conc, Ren.put_same]
    · exact ⟨rfl, alloc_new _ _⟩
  · rename_i a b hd
    rw [hd] at hu
    cases h2; cases conc_nilmap hx
    refine ⟨_, _, .pointer (some ⟨w.heap.size, 0, none⟩), ?_, ?_, hR.new (ob := .mapIter none 0 #[] 0) (C := 0) (roomy_lt c) ?_, Ren.put_ext _ _ _, Nat.le_succ _⟩
    · simp [Instr.range, run_underlying hu]
    · simp [conc, Ren.put_same]
    · exact ⟨rfl, alloc_new _ _⟩
  · rename_i a b m hd
    rw [hd] at hu
    split at h2
    rotate_left
    · cases h2
    rename_i es clock hg
    cases h2
    obtain ⟨l, hl, rfl⟩ := conc_map hx
    obtain ⟨es', g1, g2⟩ := hR.mapAt hl hg
    have hnc : ∀ c e f, (Obj.map es' clock) ≠ .cells c e f := fun _ _ _ h => by cases h
    have hle : ρ.le (ρ.put H.next ⟨w.heap.size, 0, 0⟩) := hR.le (Ren.put_ext _ _ _)
    refine ⟨_, _, .pointer (some ⟨w.heap.size, 0, none⟩), ?_, ?_, hR.new (ob := .mapIter (some l.b) clock #[] clock) (C := 0) (roomy_lt c) ?_, Ren.put_ext _ _ _, Nat.le_succ _⟩
    · simp [Instr.range, run_underlying hu, run_getObj g1 hnc]
    · simp [conc, Ren.put_same]
    · exact ⟨rfl, l, hle _ _ hl, alloc_new _ _⟩
  · cases h2

/-- The next of a range over a map: where just one is left, or none. -/
def anext (H : AHeap) (it : AV) : Option (AV × AHeap) :=
  match it with
  | .ptr i o => bif Nat.beq o 0 then (match H.get i with
    | .mapIter none _ _ _ => some (.tuple [.bool false], H)
    | .mapIter (some m) since seen stepped => match H.get m with
      | .map es clock =>
        bif !seen.isEmpty && !es.isEmpty && es.all (fun e => Nat.ble stepped e.born) then none else
        (match es.filter (fun e => !seen.contains e.born) with
          | [] => some (.tuple [.bool false], H)
          | [e] => bif Nat.blt e.born since then some (.tuple [.bool true, e.key, e.val], H.set i (.mapIter (some m) since (seen ++ [e.born]) clock)) else none
          | _ => none)
      | _ => none
    | _ => none) else none
  | _ => none

theorem anext_run (hR : Rel B W G ρ H w) {it v : AV} {H' : AHeap} (h : anext H it = some (v, H')) {it' : Value} (hit : conc ρ it = some it') (ty : TypeId) :
    ∃ w' v', (Instr.next it' false ty).run P w = .ok v' w' ∧ conc ρ v = some v' ∧ Rel B W G ρ H' w' ∧ H'.next = H.next := by
  unfold anext at h
  split at h
  rotate_left
  · cases h
  rename_i i o
  obtain ⟨l, hl, rfl⟩ := conc_ptr hit
  rcases bif_some h with ⟨c, h2⟩ | ⟨_, h2⟩
  rotate_left
  · cases h2
  obtain rfl := Nat.eq_of_beq_eq_true c
  split at h2
  · rename_i a b d hg
    cases h2
    have ho := hR.obj i l hl
    rw [hg] at ho
    obtain ⟨o1, o2⟩ := ho
    have hnc : ∀ c e f, (Obj.mapIter none a b.toArray d) ≠ .cells c e f := fun _ _ _ h => by cases h
    refine ⟨w, .tuple #[.bool false], ?_, rfl, hR, rfl⟩
    rw [o1]
    simp only [Instr.next, Nat.add_zero, Sem.run_bind, run_getObj o2 hnc, Result.andThen_ok, Sem.run_pure]
  · rename_i m since seen stepped hg
    have ho := hR.obj i l hl
    rw [hg] at ho
    obtain ⟨o1, lm, o2, o3⟩ := ho
    have hnc : ∀ c e f, (Obj.mapIter (some lm.b) since seen.toArray stepped) ≠ .cells c e f := fun _ _ _ h => by cases h
    split at h2
    rotate_left
    · cases h2
    rename_i es clock hm
    obtain ⟨es', g1, g2⟩ := hR.mapAt o2 hm
    have hnc2 : ∀ c e f, (Obj.map es' clock) ≠ .cells c e f := fun _ _ _ h => by cases h
    rcases bif_some h2 with ⟨_, h3⟩ | ⟨c2, h3⟩
    · cases h3
    have hall := g2.all (fun b => Nat.ble stepped b)
    have hemp : es'.isEmpty = es.isEmpty := by
      have := g2.get.1
      cases es with
      | nil => simp at this; simp [this]
      | cons a t =>
        simp at this
        rw [Bool.eq_iff_iff, Array.isEmpty_iff_size_eq_zero]
        constructor
        · intro hh; omega
        · intro hh; simp at hh
    have hcond : (!seen.toArray.isEmpty && !es'.isEmpty && es'.all fun x => decide (x.born ≥ stepped)) = false := by
      rw [hemp, ← Array.all_toList]
      have e1 : (es'.toList.all fun x => decide (x.born ≥ stepped)) = (es'.toList.all fun x => Nat.ble stepped x.born) := by
        congr 1; funext x
        rw [Bool.eq_iff_iff]; simp
      rw [e1, ← hall]
      simpa using c2
    have hfil := g2.filter (fun b => !seen.contains b)
    have hleft : (es'.filter fun e => !seen.toArray.contains e.born).toList = es'.toList.filter fun x => !seen.contains x.born := by
      simp
    rw [o1]
    split at h3
    · rename_i hnil
      cases h3
      rw [hnil] at hfil
      have hl0 : (es'.filter fun e => !seen.toArray.contains e.born) = #[] := by
        apply Array.ext'
        rw [hleft]
        cases hq : es'.toList.filter (fun x => !seen.contains x.born) with
        | nil => rfl
        | cons a t => rw [hq] at hfil; exact hfil.elim
      refine ⟨w, .tuple #[.bool false], ?_, rfl, hR, rfl⟩
      simp only [Instr.next, Nat.add_zero, Sem.run_bind, run_getObj o3 hnc, Result.andThen_ok, run_getObj g1 hnc2]
      rw [if_neg (by rw [hcond]; simp)]
      simp only [Sem.run_bind, Result.andThen_ok, hl0]
      simp [Question.forced]
    · rename_i e hone
      rcases bif_some h3 with ⟨c3, h4⟩ | ⟨_, h4⟩
      rotate_left
      · cases h4
      have c3 := blt_lt c3
      cases h4
      rw [hone] at hfil
      obtain ⟨x, hx⟩ : ∃ x, es'.toList.filter (fun x => !seen.contains x.born) = [x] := by
        cases hq : es'.toList.filter (fun x => !seen.contains x.born) with
        | nil => rw [hq] at hfil; exact hfil.elim
        | cons a t =>
          rw [hq] at hfil
          cases t with
          | nil => exact ⟨a, rfl⟩
          | cons b t => exact hfil.2.2.2.elim
      rw [hx] at hfil
      obtain ⟨f1, f2, f3, _⟩ := hfil
      have hl1 : (es'.filter fun e => !seen.toArray.contains e.born) = #[x] := by
        apply Array.ext'
        rw [hleft, hx]
      have hb := hR.at_ i l hl
      refine ⟨World.setBlk w l.b (.mapIter (some lm.b) since (seen ++ [e.born]).toArray clock), .tuple #[.bool true, x.key, x.val], ?_, ?_, ?_, rfl⟩
      · simp only [Instr.next, Nat.add_zero, Sem.run_bind, run_getObj o3 hnc, Result.andThen_ok, run_getObj g1 hnc2]
        rw [if_neg (by rw [hcond]; simp)]
        simp only [Sem.run_bind, Sem.run_pure, Result.andThen_ok, hl1]
        have hlt : x.born < since := by rw [f3]; exact c3
        have h1 : (#[x].filter fun e => decide (e.born < since)) = #[x] := by simp [hlt]
        have h2 : (#[x].filter fun e => decide (e.born ≥ since)) = #[] := by simp [hlt]
        rw [h1, h2]
        simp only [Sem.run_bind, run_choose_drew]
        have hset := run_setObj (P := P) o3 hnc (o' := .mapIter (some lm.b) since (seen ++ [x.born]).toArray clock)
        rw [← f3]
        simp [Question.forced, hset]
      · simp only [conc, concL, f1, f2]
      · exact hR.setObj hl (by rw [hg]; rfl) (by rw [hg]; rfl) (by rw [hg]; rfl) (by rw [hg]; rfl) ⟨o1, lm, o2, setBlk_same _ _ _ hb⟩
    · cases h3
  · cases h2

/-- The entry of a range's last step. -/
def aentry (H : AHeap) (it : AV) : Option AV :=
  match it with
  | .ptr i o => bif Nat.beq o 0 then (match H.get i with
    | .mapIter (some m) _ seen stepped => match H.get m, seen.getLast? with
      | .map es clock, some b => bif Nat.beq clock stepped then (match es.find? (fun e => Nat.beq e.born b) with
          | some e => some (.tuple [e.key, e.val])
          | none => none) else none
      | _, _ => none
    | _ => none) else none
  | _ => none

theorem aentry_run (hR : Rel B W G ρ H w) {it v : AV} (h : aentry H it = some v) {it' : Value} (hit : conc ρ it = some it') :
    ∃ v', (Instr.entry it').run P w = .ok v' w ∧ conc ρ v = some v' := by
  unfold aentry at h
  split at h
  rotate_left
  · cases h
  rename_i i o
  obtain ⟨l, hl, rfl⟩ := conc_ptr hit
  rcases bif_some h with ⟨c, h2⟩ | ⟨_, h2⟩
  rotate_left
  · cases h2
  obtain rfl := Nat.eq_of_beq_eq_true c
  split at h2
  rotate_left
  · cases h2
  rename_i m since seen stepped hg
  have ho := hR.obj i l hl
  rw [hg] at ho
  obtain ⟨o1, lm, o2, o3⟩ := ho
  have hnc : ∀ c e f, (Obj.mapIter (some lm.b) since seen.toArray stepped) ≠ .cells c e f := fun _ _ _ h => by cases h
  split at h2
  rotate_left
  · cases h2
  rename_i es clock b hm hlast
  obtain ⟨es', g1, g2⟩ := hR.mapAt o2 hm
  have hnc2 : ∀ c e f, (Obj.map es' clock) ≠ .cells c e f := fun _ _ _ h => by cases h
  rcases bif_some h2 with ⟨c2, h3⟩ | ⟨_, h3⟩
  rotate_left
  · cases h3
  obtain rfl := Nat.eq_of_beq_eq_true c2
  split at h3
  rotate_left
  · cases h3
  rename_i e hf
  cases h3
  obtain ⟨x, x1, x2, x3⟩ := g2.find (fun q => Nat.beq q b) hf
  have hfx : es'.find? (fun y => y.born == b) = some x := by
    rw [← Array.find?_toList]
    rw [← x1]
    congr 1
    funext y
    rw [Bool.eq_iff_iff]; simp
  refine ⟨.tuple #[x.key, x.val], ?_, by simp only [conc, concL, x2, x3]⟩
  rw [o1]
  have hback : seen.toArray.back? = some b := by simpa using hlast
  simp only [Instr.entry, Nat.add_zero, Sem.run_bind, run_getObj o3 hnc, Result.andThen_ok, hback, run_getObj g1 hnc2]
  simp [hfx]

/-- The first place of a byte. -/
def aidx : List UInt8 → UInt8 → Int → Int
  | [], _, _ => -1
  | b :: l, c, i => bif b == c then i else aidx l c (i + 1)

theorem aidx_eq (c : UInt8) : ∀ (l : List UInt8) (i : Int), aidx l c i = if Lib.indexByte l c = -1 then -1 else Lib.indexByte l c + i
  | [], i => by simp [aidx, Lib.indexByte]
  | b :: l, i => by
    have key : Lib.indexByte (b :: l) c = if b == c then 0 else if Lib.indexByte l c == -1 then -1 else Lib.indexByte l c + 1 := rfl
    generalize Lib.indexByte (b :: l) c = z at key ⊢
    subst key
    simp only [aidx]
    rcases Bool.eq_false_or_eq_true (b == c) with hb | hb
    · rw [hb]; simp
    · rw [hb]
      simp only [cond_false, Bool.false_eq_true, if_false, beq_iff_eq]
      rw [aidx_eq c l (i + 1)]
      have := Lib.indexByte_ge l c
      by_cases h : Lib.indexByte l c = -1
      · simp [h]
      · simp only [h, if_false]
        rw [if_neg (by omega)]
        omega

def acount : List UInt8 → UInt8 → Nat → Nat
  | [], _, n => n
  | b :: l, c, n => acount l c (bif b == c then n + 1 else n)

theorem acount_eq (c : UInt8) : ∀ (l : List UInt8) (n : Nat), acount l c n = n + Lib.countByte l c
  | [], n => by simp [acount, Lib.countByte]
  | b :: l, n => by
    simp only [acount]
    rw [acount_eq c l]
    unfold Lib.countByte
    rw [List.count_cons]
    cases b == c <;> simp <;> omega

/-- The model's own functions. -/
def aext (H : AHeap) : AExt → List AV → Option (AV × AHeap)
  | .indexByteString, [.str s, .int .u8 c] => some (.int .i64 (aidx s c.toNat.toUInt8 0), H)
  | .countString, [.str s, .int .u8 c] => some (.int .i64 (acount s c.toNat.toUInt8 0), H)
  | .noEscape, [x] => some (x, H)
  | .mapsClone, [.iface t (.map i)] => match H.get i with
    | .map es clock => bif H.roomy then some (.iface t (.map H.next), H.push (.map es clock)) else none
    | _ => none
  | _, _ => none

theorem aext_run (hR : Rel B W G ρ H w) {x : AExt} {args : List AV} {v : AV} {H' : AHeap} (h : aext H x args = some (v, H')) {args' : List Value} (ha : concL ρ args = some args') :
    ∃ ρ' w' v', (x.entry args'.toArray).run P w = .ok v' w' ∧ conc ρ' v = some v' ∧ Rel B W G ρ' H' w' ∧ ρ.ext H.next ρ' ∧ H.next ≤ H'.next := by
  unfold aext at h
  split at h
  · rename_i s c
    obtain ⟨a, b, rfl, e1, e2⟩ := concL_cons.1 ha
    obtain ⟨a2, b2, rfl, e3, e4⟩ := concL_cons.1 e2
    simp [concL] at e4; subst e4
    cases conc_str e1; cases conc_int e3; cases h
    refine ⟨ρ, w, _, run_indexByte_string ⟨s.toArray⟩ c w, ?_, hR, Ren.ext_refl _ _, Nat.le_refl _⟩
    rw [Lib.firstIdx_eq, aidx_eq]
    have := Lib.indexByte_ge s c.toNat.toUInt8
    simp only [conc]
    congr 2
    by_cases h : Lib.indexByte s c.toNat.toUInt8 = -1
    · simp [h]
    · simp [h]
  · rename_i s c
    obtain ⟨a, b, rfl, e1, e2⟩ := concL_cons.1 ha
    obtain ⟨a2, b2, rfl, e3, e4⟩ := concL_cons.1 e2
    simp [concL] at e4; subst e4
    cases conc_str e1; cases conc_int e3; cases h
    refine ⟨ρ, w, _, Lib.run_countString ⟨s.toArray⟩ c w, ?_, hR, Ren.ext_refl _ _, Nat.le_refl _⟩
    rw [acount_eq]
    simp [conc]
  · rename_i x
    obtain ⟨a, b, rfl, e1, e2⟩ := concL_cons.1 ha
    simp [concL] at e2; subst e2
    cases h
    exact ⟨ρ, w, a, rfl, e1, hR, Ren.ext_refl _ _, Nat.le_refl _⟩
  · rename_i t i
    obtain ⟨a, b, rfl, e1, e2⟩ := concL_cons.1 ha
    simp [concL] at e2; subst e2
    obtain ⟨a', e3, rfl⟩ := conc_iface e1
    obtain ⟨l, hl, rfl⟩ := conc_map e3
    split at h
    rotate_left
    · cases h
    rename_i es clock hg
    rcases bif_some h with ⟨c, h2⟩ | ⟨_, h2⟩
    rotate_left
    · cases h2
    cases h2
    obtain ⟨es', g1, g2⟩ := hR.mapAt hl hg
    have hnc : ∀ c e f, (Obj.map es' clock) ≠ .cells c e f := fun _ _ _ h => by cases h
    have hle : ρ.le (ρ.put H.next ⟨w.heap.size, 0, 0⟩) := hR.le (Ren.put_ext _ _ _)
    refine ⟨_, _, .iface t (.map (some w.heap.size)), ?_, ?_, hR.new (ob := .map es' clock) (C := 0) (roomy_lt c) ?_, Ren.put_ext _ _ _, Nat.le_succ _⟩
    · show (Extern.MapsClone.clone #[.iface t (.map (some l.b))]).run P w = _
      have hdef : Extern.MapsClone.clone #[.iface t (.map (some l.b))] = (do
          let .map entries clock ← getObj l.b | stuck "maps.clone: a map expected"
          pure (.iface t (.map (some (← newObj (.map entries clock)))))) := rfl
      rw [hdef]
      simp only [Sem.run_bind, run_getObj g1 hnc, Result.andThen_ok, run_newObj_alloc, Sem.run_pure]
    · simp [conc, Ren.put_same]
    · obtain ⟨a, b⟩ := g2.get
      exact ⟨es', alloc_new _ _, by simpa using a, fun k e he => (let ⟨p, q, r, s, t⟩ := b k e he; ⟨p, q, conc_mono hle _ _ r, conc_mono hle _ _ s, by simpa using t⟩)⟩
  · cases h

end Go.Am
/- An abstract machine for the model's code, part 18: every operation. -/
namespace Go.Am
open Go Go.RowKit

variable {E : Env} {P : Program} {B : Nat} {W : World} {G : Nat} {ρ : Ren} {H : AHeap} {w : World}

def pv : Option (AV × AHeap) → Option (ANext × AHeap)
  | some (v, H) => some (.value v, H)
  | none => none

def ps : Option AHeap → Option (ANext × AHeap)
  | some H => some (.skip, H)
  | none => none

/-- A call of a function value. -/
def acall (E : Env) (H : AHeap) (f : AV) (args : List AV) : Option (ANext × AHeap) := match f with
  | .func (.func g) first captured => match E.fn.get g with
    | some _ => some (.enter g (first ++ args ++ captured), H)
    | none => match E.ext.get g with
      | some x => pv (aext H x (first ++ args ++ captured))
      | none => none
  | .yield l => match H.get l with
    | .loop _ _ fn nt tm ps a b _ => bif Nat.beq args.length ps.size && Nat.blt (nt + 1) 16777216 then some (.round l fn nt ((ps.toList.zip args).foldl (fun t (q : Tmp × AV) => bif Nat.blt q.1 nt then t.set deep q.1 q.2 else t) tm) a b, H) else none
    | _ => none
  | _ => none

/-- What a builtin that changes memory does. -/
def abuiltinW (E : Env) (H : AHeap) (b : Builtin) (ts : Array TypeId) (vs : List AV) : Option (ANext × AHeap) :=
  match b, vs with
  | .append, [s, x] => pv (aappend E H ts s x)
  | .copy, [d, s] => pv (acopy E H ts d s)
  | .clear, [s] => match aclear E H ts s with
    | some H' => some (.value (.tuple []), H')
    | none => none
  | .delete, [m, k] => match adelete E H ts m k with
    | some H' => some (.value (.tuple []), H')
    | none => none
  | .unsafeString, [p, n] => pv (aunsafeString E H ts p n)
  | .recover, [] => some (.recover, H)
  | _, _ => none

def aofStr (E : Env) (H : AHeap) (src dst : TypeId) (v : AV) : Option (AV × AHeap) := match E.ty.get src, v with
  | some i, .str s => match i.desc with
    | .string => aofString E H dst s
    | _ => none
  | _, _ => none

/-- What an operation that changes memory does, or that calls. -/
def awrite (E : Env) (H : AHeap) (ev : Operand → Option AV) : Op → Option (ANext × AHeap)
  | .alloc t => match E.ty.get t with
    | some i => pv (anew H t i.zero.cells)
    | none => none
  | .box t x => match ev x with
    | some v => pv (anew H t v.cells)
    | none => none
  | .buildSlice t len parts => pv (abuildSlice E ev H t len parts.toList)
  | .store t a x => match ev a, ev x with
    | some p, some v => ps (astore E H t p v)
    | _, _ => none
  | .makeSlice t l c => match ev l, ev c with
    | some a, some b => pv (amakeSlice E H t a b)
    | _, _ => none
  | .makeMap _ r => pv (amakeMap H r)
  | .mapUpdate t m k x => match ev m, ev k, ev x with
    | some a, some b, some c => ps (amapUpdate E H t a b c)
    | _, _, _ => none
  | .insert t m k x => match ev m, ev k, ev x with
    | some a, some b, some c => ps (amapUpdate E H t a b c)
    | _, _, _ => none
  | .range t x => match ev x with
    | some a => pv (arange E H t a)
    | none => none
  | .next it s => bif s then none else (match ev it with
    | some a => pv (anext H a)
    | none => none)
  | .entry it => match ev it with
    | some a => match aentry H a with
      | some v => some (.value v, H)
      | none => none
    | none => none
  | .convert s d x => match ev x with
    | some a => pv (aofStr E H s d a)
    | none => none
  | .call c => match c.callee, evL ev c.args.toList with
    | .builtin b, some vs => abuiltinW E H b c.argTypes vs
    | .value f, some vs => match ev f with
      | some g => acall E H g vs
      | none => none
    | _, _ => none
  | .defer c => match c.callee, evL ev c.args.toList with
    | .value f, some vs => match ev f with
      | some (.func fn first captured) => some (.defer { target := .func fn first captured, args := vs }, H)
      | _ => none
    | _, _ => none
  | _ => none

/-- What an operation does. -/
def aeff (E : Env) (H : AHeap) (ev : Operand → Option AV) (o : Op) : Option (ANext × AHeap) :=
  match aread E H ev o with
  | some v => some (.value v, H)
  | none => awrite E H ev o

theorem pv_some {x : Option (AV × AHeap)} {nx : ANext} {H' : AHeap} (h : pv x = some (nx, H')) : ∃ v, nx = .value v ∧ x = some (v, H') := by
  unfold pv at h
  split at h
  · cases h; exact ⟨_, rfl, rfl⟩
  · cases h

theorem ps_some {x : Option AHeap} {nx : ANext} {H' : AHeap} (h : ps x = some (nx, H')) : nx = .skip ∧ x = some H' := by
  unfold ps at h
  split at h
  · cases h; exact ⟨rfl, rfl⟩
  · cases h

/-- A step that yields a value. -/
theorem Step.val {s : Sem Next} {t : Sem Value} {v : AV} {H' : AHeap} (hs : ∀ w' v', t.run P w = .ok v' w' → s.run P w = .ok (.value v') w')
    (h : ∃ ρ' w' v', t.run P w = .ok v' w' ∧ conc ρ' v = some v' ∧ Rel B W G ρ' H' w' ∧ ρ.ext H.next ρ' ∧ H.next ≤ H'.next) : Step P B W G ρ H w s (.value v) H' := by
  obtain ⟨ρ', w', v', a, b, c⟩ := h
  exact ⟨ρ', w', _, hs _ _ a, b, c⟩

theorem Step.unit {s : Sem Next} {t : Sem Unit} {H' : AHeap} (hs : ∀ w', t.run P w = .ok () w' → s.run P w = .ok .skip w')
    (h : ∃ w', t.run P w = .ok () w' ∧ Rel B W G ρ H' w' ∧ H'.next = H.next) : Step P B W G ρ H w s .skip H' := by
  obtain ⟨w', a, b, c⟩ := h
  exact ⟨ρ, w', .skip, hs _ a, trivial, b, Ren.ext_refl _ _, by omega⟩

theorem callFunc_enter (hE : E.Ok P) {g : FuncId} {x : Func} (h : E.fn.get g = some x) (args : Array Value) (w : World) : (callFunc g args).run P w = .ok (.enter g args) w := by
  obtain ⟨a, b, c⟩ := hE.fn g x h
  have hb : ¬ x.name = "runtime.NumGoroutine" := by simpa using b
  have hc : ¬ x.body = none := by intro h; rw [h] at c; cases c
  simp [callFunc, a, hb, hc]

theorem run_mark' (m : Mark) (w : World) : (Sem.mark m (Sem.pure ()) : Sem Unit).run P w = .ok () w := rfl

theorem callFunc_ext (hE : E.Ok P) {g : FuncId} {x : AExt} (h : E.ext.get g = some x) (args : Array Value) (w : World) {v : Value} {w' : World} (hx : (x.entry args).run P w = .ok v w') :
    (callFunc g args).run P w = .ok (.value v) w' := by
  obtain ⟨fn, a, b, c, d, e⟩ := hE.ext g x h
  have hb : ¬ fn.name = "runtime.NumGoroutine" := by simpa using b
  have hc : fn.body = none := by simpa using c
  simp [callFunc, a, hb, hc, d, e, mark, hx, run_mark']

theorem run_call {cev : Operand → Value} {o : Oper} {f : Operand} {args : Array Operand} {ts : Array TypeId} (ho : o.op = .call { callee := .value f, args := args, argTypes := ts })
    {fn : Fn} {first captured : Array Value} (hf : cev f = .func fn first captured) (w : World) :
    (execOp cev o).run P w = (invoke (.fn fn captured) (first ++ args.map cev)).run P w := by
  simp only [execOp, ho, resolve, Sem.run_bind, hf, Deferred.ofValue, Sem.run_pure, Result.andThen_ok]

/-- The temporaries of a round. -/
theorem fold_tm {nt : Nat} (hnt : nt + 1 < 2 ^ deep) : ∀ (ps : List Tmp) (args : List AV) (args' : List Value) (tm : T AV) (tmps : Array Value), concL ρ args = some args' → tmRel ρ nt tm tmps →
    tmRel ρ nt ((ps.zip args).foldl (fun t (q : Tmp × AV) => bif Nat.blt q.1 nt then t.set deep q.1 q.2 else t) tm) ((ps.zip args').foldl (fun t (q : Tmp × Value) => t.setIfInBounds q.1 q.2) tmps)
  | [], args, args', tm, tmps, _, h => by simpa using h
  | p :: ps, [], args', tm, tmps, hc, h => by
    simp [concL] at hc; subst hc; simpa using h
  | p :: ps, a :: args, args', tm, tmps, hc, h => by
    obtain ⟨a', b', rfl, h1, h2⟩ := concL_cons.1 hc
    simp only [List.zip_cons_cons, List.foldl_cons]
    refine fold_tm hnt ps args b' _ _ h2 ?_
    refine ⟨by simpa using h.1, fun t v e => ?_⟩
    rcases Nat.lt_or_ge p nt with hp | hp
    · rw [show Nat.blt p nt = true from by rw [Nat.blt, Nat.ble_eq]; exact hp] at e
      simp only [cond_true] at e
      by_cases ht : t = p
      · subst ht
        rw [T.get_set_same deep tm t a (by omega)] at e
        cases e
        exact ⟨a', h1, by rw [Array.getElem?_setIfInBounds_self_of_lt (by rw [h.1]; exact hp)]⟩
      · rw [T.get_set_ne _ _ _ _ _ ht] at e
        obtain ⟨v', x1, x2⟩ := h.2 t v e
        exact ⟨v', x1, by rw [Array.getElem?_setIfInBounds_ne (fun h => ht h.symm)]; exact x2⟩
    · have hb : Nat.blt p nt = false := by
        cases hq : Nat.blt p nt with
        | false => rfl
        | true => have := blt_lt hq; omega
      rw [hb] at e
      simp only [cond_false] at e
      obtain ⟨v', x1, x2⟩ := h.2 t v e
      refine ⟨v', x1, ?_⟩
      have : tmps.setIfInBounds p a' = tmps := by
        apply Array.ext
        · simp
        · intro i hi hi2
          rw [Array.getElem_setIfInBounds]
          rw [if_neg]
          intro hh
          have := h.1
          omega
      rw [this]; exact x2

theorem acall_run (hE : E.Ok P) (hR : Rel B W G ρ H w) {f : AV} {args : List AV} {nx : ANext} {H' : AHeap} (h : acall E H f args = some (nx, H')) {f' : Value} {args' : List Value} (hf : conc ρ f = some f') (ha : concL ρ args = some args') :
    ∃ fn first captured, f' = .func fn first captured ∧ Step P B W G ρ H w (invoke (.fn fn captured) (first ++ args'.toArray)) nx H' := by
  unfold acall at h
  split at h
  · rename_i g first captured
    obtain ⟨fi, ca, h1, h2, rfl⟩ := conc_func hf
    refine ⟨_, _, _, rfl, ?_⟩
    have hall := concL_append (concL_append h1 ha) h2
    split at h
    · rename_i x hg
      cases h
      refine ⟨ρ, w, .enter g (fi.toArray ++ args'.toArray ++ ca.toArray), ?_, ⟨rfl, _, hall, by simp⟩, hR, Ren.ext_refl _ _, Nat.le_refl _⟩
      simp only [invoke]
      exact callFunc_enter hE hg _ w
    · split at h
      rotate_left
      · cases h
      rename_i x hx
      obtain ⟨v, rfl, h3⟩ := pv_some h
      refine Step.val (t := x.entry (fi ++ args' ++ ca).toArray) (fun w' v' hr => ?_) (aext_run hR h3 hall)
      simp only [invoke]
      refine callFunc_ext hE hx _ w ?_
      simpa using hr
  · rename_i l
    obtain ⟨lo, hl, rfl⟩ := conc_yield hf
    refine ⟨_, _, _, rfl, ?_⟩
    split at h
    rotate_left
    · cases h
    rename_i st pend fn nt tm ps a b defers hg
    rcases bif_some h with ⟨c, h2⟩ | ⟨_, h2⟩
    rotate_left
    · cases h2
    cases h2
    rw [Bool.and_eq_true] at c
    have c1 := Nat.eq_of_beq_eq_true c.1
    have c2 := blt_lt c.2
    have ho := hR.obj l lo hl
    rw [hg] at ho
    obtain ⟨ld, tmps, o1, o2, o3, o4⟩ := ho
    have hnc : ∀ c e f, (Obj.loop { state := st, pending := pend, fn, tmps, params := ps, assign := a, body := b, defers := ld.b }) ≠ .cells c e f := fun _ _ _ h => by cases h
    have hlen : args'.length = ps.size := (concL_length ha).trans c1
    refine ⟨ρ, w, .round lo.b fn ((ps.zip args'.toArray).foldl (fun tmps (t, a) => tmps.setIfInBounds t a) tmps) a b, ?_, ⟨⟨lo, hl, rfl⟩, rfl, ?_, rfl, rfl⟩, hR, Ren.ext_refl _ _, Nat.le_refl _⟩
    · simp only [invoke, Instr.yield, Instr.getLoop, Sem.run_bind, run_getObj o4 hnc, Result.andThen_ok, Sem.run_pure]
      simp [hlen]
    · have := fold_tm (ρ := ρ) (nt := nt) (by simpa [deep] using c2) ps.toList args args' tm tmps ha ⟨o2, o3⟩
      rw [← Array.foldl_toList]
      simpa using this
  · cases h

theorem map2 {cev : Operand → Value} (xs : Array Operand) : (xs.toList.map cev).toArray = xs.map cev := by apply Array.ext'; simp

theorem two {x y : AV} {cev : Operand → Value} {xs : Array Operand} (h : concL ρ [x, y] = some (xs.toList.map cev)) : ∃ a b, xs.map cev = #[a, b] ∧ conc ρ x = some a ∧ conc ρ y = some b := by
  obtain ⟨a, l, h1, h2, h3⟩ := concL_cons.1 h
  obtain ⟨b, l', rfl, h4, h5⟩ := concL_cons.1 h3
  simp [concL] at h5; subst h5
  exact ⟨a, b, by rw [← map2, h1], h2, h4⟩

theorem one {x : AV} {cev : Operand → Value} {xs : Array Operand} (h : concL ρ [x] = some (xs.toList.map cev)) : ∃ a, xs.map cev = #[a] ∧ conc ρ x = some a := by
  obtain ⟨a, l, h1, h2, h3⟩ := concL_cons.1 h
  simp [concL] at h3; subst h3
  exact ⟨a, by rw [← map2, h1], h2⟩

theorem none_ {cev : Operand → Value} {xs : Array Operand} (h : concL ρ [] = some (xs.toList.map cev)) : xs.map cev = #[] := by
  rw [← map2]; simp [concL] at h; simp [← h]

theorem abuiltinW_run (hE : E.Ok P) (hR : Rel B W G ρ H w) {b : Builtin} {ts : Array TypeId} {vs : List AV} {nx : ANext} {H' : AHeap} (h : abuiltinW E H b ts vs = some (nx, H')) {cev : Operand → Value} {args : Array Operand}
    (ha : concL ρ vs = some (args.toList.map cev)) (ty : TypeId) (cs : Array Bool) : Step P B W G ρ H w (builtin b ts ty cs (args.map cev)) nx H' := by
  unfold abuiltinW at h
  split at h
  · rename_i s x
    obtain ⟨a, b, e, h1, h2⟩ := two ha
    obtain ⟨v, rfl, h3⟩ := pv_some h
    rw [e]
    exact Step.val (fun w' v' hr => by simp only [builtin]; exact run_v hr) (aappend_run hE hR h3 h1 h2 ty)
  · rename_i d s
    obtain ⟨a, b, e, h1, h2⟩ := two ha
    obtain ⟨v, rfl, h3⟩ := pv_some h
    rw [e]
    exact Step.val (fun w' v' hr => by simp only [builtin]; exact run_v hr) (acopy_run hE hR h3 h1 h2 ty)
  · rename_i s
    obtain ⟨a, e, h1⟩ := one ha
    split at h
    rotate_left
    · cases h
    rename_i H2 h3
    cases h
    rw [e]
    obtain ⟨w', p, q, r⟩ := aclear_run hE hR h3 h1 ty
    exact ⟨ρ, w', _, by simp only [builtin]; exact run_v p, by simp [nextRel, conc, concL], q, Ren.ext_refl _ _, by omega⟩
  · rename_i m k
    obtain ⟨a, b, e, h1, h2⟩ := two ha
    split at h
    rotate_left
    · cases h
    rename_i H2 h3
    cases h
    rw [e]
    obtain ⟨w', p, q, r⟩ := adelete_run hE hR h3 h1 h2 ty
    exact ⟨ρ, w', _, by simp only [builtin]; exact run_v p, by simp [nextRel, conc, concL], q, Ren.ext_refl _ _, by omega⟩
  · rename_i p n
    obtain ⟨a, b, e, h1, h2⟩ := two ha
    obtain ⟨v, rfl, h3⟩ := pv_some h
    rw [e]
    exact Step.val (fun w' v' hr => by simp only [builtin]; exact run_v hr) (aunsafeString_run hE hR h3 h1 h2 ty)
  · cases h
    exact ⟨ρ, w, .recover, by simp only [builtin]; rfl, trivial, hR, Ren.ext_refl _ _, Nat.le_refl _⟩
  · cases h

theorem aeff_run (hE : E.Ok P) (hR : Rel B W G ρ H w) {ev : Operand → Option AV} {cev : Operand → Value} (hv : Evr ρ ev cev) {o : Oper} {nx : ANext} {H' : AHeap} (h : aeff E H ev o.op = some (nx, H')) :
    Step P B W G ρ H w (execOp cev o) nx H' := by
  unfold aeff at h
  split at h
  · rename_i v hr
    cases h
    obtain ⟨v', h1, h2⟩ := aread_run hE hR hv hr
    exact ⟨ρ, w, _, h2, h1, hR, Ren.ext_refl _ _, Nat.le_refl _⟩
  cases hop : o.op <;> rw [hop] at h <;> simp only [awrite] at h
  case alloc t =>
    split at h
    rotate_left
    · cases h
    rename_i i hi
    obtain ⟨v, rfl, h3⟩ := pv_some h
    obtain ⟨zv, z1, z2⟩ := hE.zero hi
    obtain ⟨ρ', w', a', p, q, r⟩ := anew_run (P := P) hR h3 (conc_cells (z2 ρ))
    refine ⟨ρ', w', .value (.pointer (some a')), ?_, q, r⟩
    simp only [execOp, hop]
    refine run_v ?_
    simp [Instr.alloc, z1, p]
  case box t x =>
    split at h
    rotate_left
    · cases h
    rename_i u hu
    obtain ⟨v, rfl, h3⟩ := pv_some h
    obtain ⟨ρ', w', a', p, q, r⟩ := anew_run (P := P) hR h3 (conc_cells (hv x _ hu))
    refine ⟨ρ', w', .value (.pointer (some a')), ?_, q, r⟩
    simp only [execOp, hop]
    refine run_v ?_
    simp [Instr.box, p]
  case buildSlice t len parts =>
    obtain ⟨v, rfl, h3⟩ := pv_some h
    exact Step.val (fun w' v' hr => by simp only [execOp, hop]; exact run_v hr) (abuildSlice_run hE hR hv h3)
  case store t a x =>
    split at h
    rotate_left
    · cases h
    rename_i p v hp hx
    obtain ⟨rfl, h3⟩ := ps_some h
    obtain ⟨w', q⟩ := astore_run hE hR h3 (hv a _ hp) (hv x _ hx)
    exact Step.unit (fun w' hr => by simp only [execOp, hop]; simp [hr]) ⟨w', q⟩
  case makeSlice t l c =>
    split at h
    rotate_left
    · cases h
    rename_i p q hp hq
    obtain ⟨v, rfl, h3⟩ := pv_some h
    exact Step.val (fun w' v' hr => by simp only [execOp, hop]; exact run_v hr) (amakeSlice_run hE hR h3 (hv l _ hp) (hv c _ hq))
  case makeMap t r =>
    obtain ⟨v, rfl, h3⟩ := pv_some h
    exact Step.val (fun w' v' hr => by simp only [execOp, hop]; exact run_v hr) (amakeMap_run hR h3 cev)
  case mapUpdate t m k x =>
    split at h
    rotate_left
    · cases h
    rename_i a b c ha hb hc
    obtain ⟨rfl, h3⟩ := ps_some h
    exact Step.unit (fun w' hr => by simp only [execOp, hop]; simp [hr]) (amapUpdate_run hE hR h3 (hv m _ ha) (hv k _ hb) (hv x _ hc))
  case insert t m k x =>
    split at h
    rotate_left
    · cases h
    rename_i a b c ha hb hc
    obtain ⟨rfl, h3⟩ := ps_some h
    exact Step.unit (fun w' hr => by simp only [execOp, hop]; simp [hr]) (amapUpdate_run hE hR h3 (hv m _ ha) (hv k _ hb) (hv x _ hc))
  case range t x =>
    split at h
    rotate_left
    · cases h
    rename_i a ha
    obtain ⟨v, rfl, h3⟩ := pv_some h
    exact Step.val (fun w' v' hr => by simp only [execOp, hop]; exact run_v hr) (arange_run hE hR h3 (hv x _ ha))
  case next it s =>
    cases s with
    | true => cases h
    | false =>
      simp only [cond_false] at h
      split at h
      rotate_left
      · cases h
      rename_i a ha
      obtain ⟨v, rfl, h3⟩ := pv_some h
      obtain ⟨w', v', p, q, r, s⟩ := anext_run (P := P) hR h3 (hv it _ ha) o.type
      exact ⟨ρ, w', .value v', by simp only [execOp, hop]; exact run_v p, q, r, Ren.ext_refl _ _, by omega⟩
  case entry it =>
    split at h
    rotate_left
    · cases h
    rename_i a ha
    split at h
    rotate_left
    · cases h
    rename_i v h3
    cases h
    obtain ⟨v', p, q⟩ := aentry_run (P := P) hR h3 (hv it _ ha)
    exact ⟨ρ, w, .value v', by simp only [execOp, hop]; exact run_v p, q, hR, Ren.ext_refl _ _, Nat.le_refl _⟩
  case convert s d x =>
    split at h
    rotate_left
    · cases h
    rename_i a ha
    obtain ⟨v, rfl, h3⟩ := pv_some h
    unfold aofStr at h3
    split at h3
    rotate_left
    · cases h3
    rename_i i str hi
    split at h3
    rotate_left
    · cases h3
    rename_i hd
    have := conc_str (hv x _ ha)
    refine Step.val (fun w' v' hr => ?_) (aofString_run (P := P) hE hR hi hd h3 (src := s) (dst := d))
    simp only [execOp, hop]
    rw [this]
    exact run_v hr
  case call c =>
    obtain ⟨callee, args, ts⟩ := c
    simp only at h
    split at h
    · rename_i b vs hvs
      obtain ⟨ρ', w', nx', p, q⟩ := abuiltinW_run hE hR h (evL_conc hv hvs) o.type (args.map fun | .const _ => true | _ => false)
      exact ⟨ρ', w', nx', by rw [run_builtin hop]; exact p, q⟩
    · rename_i f vs hvs
      split at h
      rotate_left
      · cases h
      rename_i g hg
      obtain ⟨fn, first, captured, e, ρ', w', nx', p, q⟩ := acall_run hE hR h (hv f _ hg) (evL_conc hv hvs)
      exact ⟨ρ', w', nx', by rw [run_call hop e]; rw [map2] at p; exact p, q⟩
    · cases h
  case defer c =>
    obtain ⟨callee, args, ts⟩ := c
    simp only at h
    split at h
    rotate_left
    · cases h
    rename_i f vs hvs
    split at h
    rotate_left
    · cases h
    rename_i fn first captured hg
    cases h
    obtain ⟨fi, ca, h1, h2, e⟩ := conc_func (hv f _ hg)
    refine ⟨ρ, w, .defer { target := .fn fn ca.toArray, args := fi.toArray ++ args.map cev }, ?_, ?_, hR, Ren.ext_refl _ _, Nat.le_refl _⟩
    · simp only [execOp, hop, resolve, Sem.run_bind, e, Deferred.ofValue, Sem.run_pure, Result.andThen_ok]
    · exact ⟨fn, first, captured, vs, rfl, fi, ca, _, h1, h2, evL_conc hv hvs, rfl, by rw [map2]⟩
  all_goals cases h
end Go.Am
/- An abstract machine for the model's code, part 19: frames, and one step. -/
namespace Go.Am
open Go Go.RowKit

/-- An operation of a region whose order is drawn: its place, itself, those that come before it. -/
structure DOp where
  i : Nat
  o : Oper
  M : Nat

/-- An operation that is done here but may not be done yet there; the name of the block that it makes. -/
structure Pend where
  d : DOp
  r : Nat
  born : Bool

inductive AD where
  | call (d : ADef)
  | coll (r : Nat)

inductive AItem where
  | code (c : Code)
  | inBlock (id : Nat)
  | inLoop (body : Code)
  | inScope (body : Code)
  | ops (ops : Array Oper) (l : List Oper)
  | drawn (ops : Array Oper) (wt : T Nat) (left : List DOp) (L : Nat) (pend : List Pend)
  | drawnIn (ops : Array Oper) (wt : T Nat) (e : DOp) (left : List DOp) (L : Nat) (pend : List Pend)
  | inRangeFunc (l : Nat)
  | endRangeFunc (l : Nat)
  | beginRound

inductive AMode where
  | run | returning

structure AFrame where
  fn : FuncId
  nt : Nat
  tm : T AV
  todo : List AItem
  defers : List AD
  mode : AMode
  deferred : Bool
  round : Option Nat

structure AState where
  top : AFrame
  callers : List AFrame
  H : AHeap

def aev (E : Env) (tm : T AV) : Operand → Option AV
  | .tmp t => tm.get t
  | .const v => ofValue v
  | .global g => bif Nat.blt g E.gl then some (.ptr g 0) else none
  | .func f => some (.func (.func f) [] [])

def aput (nt : Nat) (tm : T AV) (dst : Option Tmp) (v : AV) : T AV := match dst with
  | some t => bif Nat.blt t nt then tm.set deep t v else .e
  | none => tm

def argsTm : Nat → T AV → List AV → T AV
  | _, tm, [] => tm
  | i, tm, v :: l => argsTm (i + 1) (tm.set deep i v) l

/-- A call begun. -/
def AFrame.enter (g : FuncId) (x : Func) (args : List AV) (deferred : Bool) : Option AFrame :=
  match x.body with
  | some c => bif Nat.blt (args.length + x.ntmps + 1) 16777216 then
      some { fn := g, nt := args.length + (x.ntmps - args.length), tm := argsTm 0 .e args, todo := [.code c], defers := [], mode := .run, deferred, round := none }
      else none
  | none => none

/-- What an operation's value becomes. -/
def AFrame.finish (f : AFrame) (v : AV) : Option AFrame :=
  match f.mode with
  | .returning => none
  | .run => match f.todo with
    | .ops ops (o :: l) :: k => some { f with tm := aput f.nt f.tm o.dst v, todo := .ops ops l :: k }
    | .drawnIn ops wt e left L pend :: k => some { f with tm := aput f.nt f.tm e.o.dst v, todo := .drawn ops wt left L pend :: k }
    | .inRangeFunc l :: k => some { f with todo := .endRangeFunc l :: k }
    | .beginRound :: k => some { f with todo := k }
    | _ => none

def aexitTo (id : Nat) : List AItem → Option (List AItem)
  | .inBlock id' :: k => bif Nat.beq id' id then some k else aexitTo id k
  | .drawn .. :: _ => none
  | .drawnIn .. :: _ => none
  | _ :: k => aexitTo id k
  | [] => none

def agotoIn (l : Nat) : List AItem → Option (List AItem)
  | .inScope body :: k => match findLabel body l with
    | some rest => some (.code rest :: .inScope body :: k)
    | none => agotoIn l k
  | .drawn .. :: _ => none
  | .drawnIn .. :: _ => none
  | _ :: k => agotoIn l k
  | [] => none

/-- Is the operation wanted? -/
def aguard (ops : Array Oper) (ev : Operand → Option AV) (o : Oper) : Option Bool := match o.guard with
  | none => some true
  | some (j, want) => match ops.toList[j]? with
    | some oj => match oj.dst with
      | some t => match ev (.tmp t) with
        | some (.bool b) => some (b == want)
        | some (.tuple []) => some false
        | _ => none
      | none => none
    | none => none

/-- What a frame becomes when an operation of its has come to something. -/
def aapply (E : Env) (f : AFrame) (callers : List AFrame) : ANext → AHeap → Option AState
  | .value v, H => match f.finish v with
    | some f' => some ⟨f', callers, H⟩
    | none => none
  | .skip, H => match f.finish (.tuple []) with
    | some f' => some ⟨f', callers, H⟩
    | none => none
  | .enter g args, H => match E.fn.get g with
    | some x => match AFrame.enter g x args false with
      | some f' => some ⟨f', f :: callers, H⟩
      | none => none
    | none => none
  | .round l fn nt tm a b, H => bif Nat.blt (nt + 1) 16777216 then some ⟨{ fn, nt, tm, todo := [.code a, .beginRound, .code b], defers := [], mode := .run, deferred := false, round := some l }, f :: callers, H⟩ else none
  | .defer d, H => match f.round with
    | none => match { f with defers := .call d :: f.defers }.finish (.tuple []) with
      | some f' => some ⟨f', callers, H⟩
      | none => none
    | some _ => none
  | .recover, H => match f.round with
    | none => bif !f.deferred || !callers.isEmpty then (match f.finish .niliface with
      | some f' => some ⟨f', callers, H⟩
      | none => none) else none
    | some _ => none

/-- A value returned. -/
def areturn (f : AFrame) (callers : List AFrame) (v : AV) (H : AHeap) : Option AState := match callers with
  | c :: cs => bif f.deferred then (match c.mode with
      | .returning => some ⟨c, cs, H⟩
      | .run => none) else (match c.finish v with
      | some c' => some ⟨c', cs, H⟩
      | none => none)
  | [] => none

def aleave (f : AFrame) (callers : List AFrame) (H : AHeap) (jump : Option Code) : Option AState := match f.round with
  | none => match jump with
    | none => some ⟨{ f with mode := .returning }, callers, H⟩
    | some .ret => some ⟨{ f with mode := .returning }, callers, H⟩
    | some _ => none
  | some l => match H.get l with
    | .loop _ _ fn nt tm ps a b ds => match jump with
      | none => areturn f callers (.bool true) (H.set l (.loop .ready none fn nt tm ps a b ds))
      | some c => areturn f callers (.bool false) (H.set l (.loop .done (some c) fn nt tm ps a b ds))
    | _ => none

/-- The values that a call returns. -/
def aresult (E : Env) (H : AHeap) (tm : T AV) : ResultVar → Option AV
  | .tmp t => tm.get t
  | .cell a t => match tm.get a with
    | some p => aload E H t p
    | none => none

def aresults (E : Env) (H : AHeap) (tm : T AV) : List ResultVar → Option (List AV)
  | [] => some []
  | r :: l => match aresult E H tm r, aresults E H tm l with
    | some v, some vs => some (v :: vs)
    | _, _ => none

def aone : List AV → AV
  | [v] => v
  | vs => .tuple vs

def aunwind (E : Env) (f : AFrame) (callers : List AFrame) (H : AHeap) : Option AState := match f.defers with
  | .coll r :: ds => match H.get r with
    | .deferred true => some ⟨{ f with defers := ds }, callers, H.set r (.deferred false)⟩
    | _ => none
  | .call d :: ds => match d.target with
    | .func (.func g) first captured => match E.fn.get g with
      | some x => match AFrame.enter g x (first ++ d.args ++ captured) true with
        | some f' => some ⟨f', { f with defers := ds } :: callers, H⟩
        | none => none
      | none => none
    | _ => none
  | [] => match E.fn.get f.fn with
    | some x => match aresults E H f.tm x.results.toList with
      | some vs => areturn f callers (aone vs) H
      | none => none
    | none => none

/-- A range over a function begun. -/
def aenterLoop (E : Env) (fr : AFrame) (callers : List AFrame) (H : AHeap) (k : List AItem) (f : Operand) (params : Array Tmp) (assign body : Code) : Option AState :=
  bif H.roomy && (H.push (.deferred true)).roomy then
    match aev E fr.tm f with
    | some g => match fr.round with
      | none =>
        let H2 := (H.push (.deferred true)).push (.loop .ready none fr.fn fr.nt fr.tm params assign body H.next)
        match acall E H2 g [.yield (H.next + 1)] with
        | some (nx, H3) => aapply E { fr with todo := .inRangeFunc (H.next + 1) :: k, defers := .coll H.next :: fr.defers } callers nx H3
        | none => none
      | some l => match H.get l with
        | .loop _ _ _ _ _ _ _ _ d =>
          let H2 := H.push (.loop .ready none fr.fn fr.nt fr.tm params assign body d)
          match acall E H2 g [.yield H.next] with
          | some (nx, H3) => aapply E { fr with todo := .inRangeFunc H.next :: k } callers nx H3
          | none => none
        | _ => none
    | none => none
  else none

/-- Those that come before an operation. -/
def amask (ms : T Nat) (i : Nat) : List Edge → Option Nat
  | [] => some 0
  | e :: l => match amask ms i l with
    | some m => bif Region.binds .any e then (match ms.get e.on with
        | some n => bif Nat.blt e.on i then some (Nat.lor (Nat.lor (Nat.shiftLeft 1 e.on) n) m) else none
        | none => none) else some m
    | none => none

def dgo : List Oper → Nat → T Nat → Option (List DOp)
  | [], _, _ => some []
  | o :: l, i, ms => bif Nat.blt i 8388608 then (match amask ms i o.after.toList with
    | some m => match dgo l (i + 1) (ms.set deep i m) with
      | some ds => some (⟨i, o, m⟩ :: ds)
      | none => none
    | none => none) else none

/-- Who writes a temporary. -/
def writers : List DOp → T Nat → Option (T Nat)
  | [], t => some t
  | d :: l, t => match d.o.dst with
    | none => writers l t
    | some k => match t.get k with
      | none => bif Nat.blt k 8388608 then writers l (t.set deep k d.i) else none
      | some _ => none

def readOk (wt : T Nat) (M L : Nat) (t : Tmp) : Bool := match wt.get t with
  | none => true
  | some j => Nat.testBit M j || !Nat.testBit L j

/-- What an operation may read while others may not be done yet. -/
def aevD (E : Env) (tm : T AV) (wt : T Nat) (M L : Nat) : Operand → Option AV
  | .tmp t => bif readOk wt M L t then tm.get t else none
  | x => aev E tm x

/-- Does the operation make a row, and no more? -/
def isMake : Op → Bool
  | .alloc _ => true
  | .box _ _ => true
  | .buildSlice _ _ _ => true
  | .makeMap _ none => true
  | _ => false

def isSliceTy (E : Env) (t : TypeId) : Bool := match E.ty.get t with
  | some i => match i.desc with
    | .slice _ => true
    | _ => false
  | none => true

/-- Does it act? -/
def isEff (E : Env) : Op → Bool
  | .move _ => false
  | .pick _ _ _ => false
  | .nilCheck _ => false
  | .build _ _ => false
  | .binOp _ _ _ _ _ => false
  | .unOp _ _ _ => false
  | .convert _ d _ => isSliceTy E d
  | .makeInterface _ _ => false
  | .makeFunc _ _ _ => false
  | .slice _ _ _ _ _ => false
  | .fieldAddr _ _ _ => false
  | .field _ _ _ => false
  | .indexAddr _ _ _ => false
  | .index _ _ _ => false
  | .lookup _ _ _ _ => false
  | .extract _ _ => false
  | .load _ _ => false
  | .typeAssert _ _ _ _ => false
  | .alloc _ => false
  | .box _ _ => false
  | .buildSlice _ _ _ => false
  | .makeMap _ none => false
  | .call c => match c.callee with
    | .builtin .len => false
    | .builtin .max => false
    | .builtin .min => false
    | .builtin .unsafeSliceData => false
    | _ => true
  | _ => true

/-- A slice's literal: its cells. -/
def abs (E : Env) (ev : Operand → Option AV) (t : TypeId) (len : Nat) (parts : List (Nat × Operand)) : Option (List AV × Nat) :=
  match E.ty.get t, aparts ev parts with
  | some x, some ps => match x.desc with
    | .slice e => match E.ty.get e with
      | some y => bif Nat.ble (len * y.size) 16777216 && Nat.beq y.zero.cells.length y.size then
          match afill (fun i => some (i * y.size, y.size)) (azeros len y.zero.cells) ps with
          | some cs => some (cs, e)
          | none => none
        else none
      | none => none
    | _ => none
  | _, _ => none

/-- What an operation's new block is known by. -/
inductive MkV where
  | ptr
  | sl (n : Nat)
  | mp

/-- The block that an operation makes. -/
def amk (E : Env) (ev : Operand → Option AV) : Op → Option (MkV × AObj)
  | .alloc t => match E.ty.get t with
    | some i => some (.ptr, .row i.zero.cells t 0 0 false false true false [])
    | none => none
  | .box t x => match ev x with
    | some v => some (.ptr, .row v.cells t 0 0 false false true false [])
    | none => none
  | .buildSlice t len parts => match abs E ev t len parts.toList with
    | some (cs, e) => some (.sl len, .row cs e 0 0 false false true false [])
    | none => none
  | .makeMap _ none => some (.mp, .map [] 0)
  | _ => none

def kval (k : MkV) (r : Nat) : AV := match k with
  | .ptr => .ptr r 0
  | .sl n => .slice r 0 n (.known n)
  | .mp => .map r

mutual
def sameV : AV → AV → Bool
  | .bool a, .bool b => a == b
  | .int k a, .int j b => k == j && a == b
  | .str a, .str b => a == b
  | .nilptr, .nilptr => true
  | .ptr i o, .ptr j p => Nat.beq i j && Nat.beq o p
  | .nilslice, .nilslice => true
  | .slice i o n c, .slice j p m d => Nat.beq i j && Nat.beq o p && Nat.beq n m && (match c, d with
    | .known x, .known y => Nat.beq x y
    | .rest x, .rest y => Nat.beq x y
    | _, _ => false)
  | .sl0 i o p n, .sl0 j q r m => Nat.beq i j && Nat.beq o q && Nat.beq p r && Nat.beq n m
  | .nilmap, .nilmap => true
  | .map i, .map j => Nat.beq i j
  | .func (.func f) a b, .func (.func g) c d => Nat.beq f g && sameL a c && sameL b d
  | .yield i, .yield j => Nat.beq i j
  | .nilfunc, .nilfunc => true
  | .iface t v, .iface u w => Nat.beq t u && sameV v w
  | .niliface, .niliface => true
  | .agg a, .agg b => sameL a b
  | .tuple a, .tuple b => sameL a b
  | _, _ => false
def sameL : List AV → List AV → Bool
  | [], [] => true
  | a :: l, b :: m => sameV a b && sameL l m
  | _, _ => false
end

def sameObj : AObj → AObj → Bool
  | .row cs t 0 0 false false true false [], .row cs' t' 0 0 false false true false [] => Nat.beq t t' && sameL cs cs'
  | .map [] 0, .map [] 0 => true
  | _, _ => false

/-- What an operation that may be done late comes to now. -/
def acanon (E : Env) (H : AHeap) (tm : T AV) (ops : Array Oper) (wt : T Nat) (L : Nat) (p : Pend) : Option AV := match aguard ops (aevD E tm wt p.d.M L) p.d.o with
  | some true => bif isMake p.d.o.op then (bif p.born then match amk E (aevD E tm wt p.d.M L) p.d.o.op with
      | some (k, ob) => bif sameObj (H.get p.r) ob then some (kval k p.r) else none
      | none => none else none) else aread E H (aevD E tm wt p.d.M L) p.d.o.op
  | some false => some (.tuple [])
  | none => none

def arecheck (E : Env) (H : AHeap) (tm : T AV) (ops : Array Oper) (wt : T Nat) (L : Nat) (p : Pend) : Bool := match acanon E H tm ops wt L p with
  | some v => match p.d.o.dst with
    | none => true
    | some t => match tm.get t with
      | some u => sameV u v
      | none => false
  | none => false

/-- What is known while a region of a drawn order runs. -/
structure Dst where
  tm : T AV
  H : AHeap
  L : Nat
  pend : List Pend
  left : List DOp

def readyIn (d : DOp) (L : Nat) : Bool := Nat.beq (Nat.land d.M L) d.M

/-- All that can be done, done. -/
def asweep (E : Env) (ops : Array Oper) (wt : T Nat) (nt : Nat) : List DOp → Dst → Option Dst
  | [], s => some { s with left := s.left.reverse }
  | d :: l, s => bif isEff E d.o.op || !readyIn d s.L then asweep E ops wt nt l { s with left := d :: s.left }
    else match aguard ops (aevD E s.tm wt d.M s.L) d.o with
    | some true => bif isMake d.o.op then (match amk E (aevD E s.tm wt d.M s.L) d.o.op with
        | some (k, ob) => bif s.H.roomy then asweep E ops wt nt l { s with tm := aput nt s.tm d.o.dst (kval k s.H.next), H := s.H.push ob, L := Nat.lor s.L (Nat.shiftLeft 1 d.i), pend := ⟨d, s.H.next, true⟩ :: s.pend } else none
        | none => none)
      else (match aread E s.H (aevD E s.tm wt d.M s.L) d.o.op with
        | some v => asweep E ops wt nt l { s with tm := aput nt s.tm d.o.dst v, L := Nat.lor s.L (Nat.shiftLeft 1 d.i), pend := ⟨d, 0, false⟩ :: s.pend }
        | none => none)
    | some false => asweep E ops wt nt l { s with tm := aput nt s.tm d.o.dst (.tuple []), L := Nat.lor s.L (Nat.shiftLeft 1 d.i), pend := ⟨d, 0, false⟩ :: s.pend }
    | none => none

/-- One step in a region of a drawn order: all that can be done, and then the one that acts. -/
def adrawn (E : Env) (f : AFrame) (callers : List AFrame) (H : AHeap) (ops : Array Oper) (wt : T Nat) (left : List DOp) (L : Nat) (pend : List Pend) (k : List AItem) : Option AState :=
  match asweep E ops wt f.nt left ⟨f.tm, H, L, pend, []⟩ with
  | some s => bif s.pend.all (arecheck E s.H s.tm ops wt s.L) then (match s.left with
    | [] => some ⟨{ f with tm := s.tm, todo := k }, callers, s.H⟩
    | e :: l => bif l.all (fun d => !readyIn d s.L) then
        let f' : AFrame := { f with tm := s.tm, todo := .drawnIn ops wt e l (Nat.lor s.L (Nat.shiftLeft 1 e.i)) (s.pend.filter fun p => !Nat.testBit e.M p.d.i) :: k }
        match aguard ops (aevD E s.tm wt e.M s.L) e.o with
        | some true => match aeff E s.H (aevD E s.tm wt e.M s.L) e.o.op with
          | some (nx, H') => aapply E f' callers nx H'
          | none => none
        | some false => aapply E f' callers .skip s.H
        | none => none
      else none) else none
  | none => none

/-- ONE STEP. -/
def astep (E : Env) (s : AState) : Option AState :=
  let f := s.top
  match f.mode with
  | .returning => aunwind E f s.callers s.H
  | .run => match f.todo with
    | [] => aleave f s.callers s.H none
    | .code c :: k => match c with
      | .ret => aleave f s.callers s.H (some .ret)
      | .skip => some { s with top := { f with todo := k } }
      | .label _ => some { s with top := { f with todo := k } }
      | .seq a b => some { s with top := { f with todo := .code a :: .code b :: k } }
      | .cond c a b => match aev E f.tm c with
        | some (.bool t) => some { s with top := { f with todo := .code (bif t then a else b) :: k } }
        | _ => none
      | .block id body => some { s with top := { f with todo := .code body :: .inBlock id :: k } }
      | .loop body => some { s with top := { f with todo := .code body :: .inLoop body :: k } }
      | .scope body => some { s with top := { f with todo := .code body :: .inScope body :: k } }
      | .exit id => match aexitTo id k with
        | some k' => some { s with top := { f with todo := k' } }
        | none => aleave f s.callers s.H (some (.exit id))
      | .goto l => match agotoIn l k with
        | some k' => some { s with top := { f with todo := k' } }
        | none => aleave f s.callers s.H (some (.goto l))
      | .rangeFunc g ps a b => aenterLoop E f s.callers s.H k g ps a b
      | .region _ ops draw => bif draw then (match dgo ops.toList 0 .e with
          | some ds => match writers ds .e with
            | some wt => some { s with top := { f with todo := .drawn ops wt ds 0 [] :: k } }
            | none => none
          | none => none) else some { s with top := { f with todo := .ops ops ops.toList :: k } }
      | .refuse _ => none
    | .inBlock _ :: k => some { s with top := { f with todo := k } }
    | .inScope _ :: k => some { s with top := { f with todo := k } }
    | .inLoop body :: k => some { s with top := { f with todo := .code body :: .inLoop body :: k } }
    | .ops ops l :: k => match l with
      | [] => some { s with top := { f with todo := k } }
      | o :: _ => match aguard ops (aev E f.tm) o with
        | some true => match aeff E s.H (aev E f.tm) o.op with
          | some (nx, H') => aapply E f s.callers nx H'
          | none => none
        | some false => aapply E f s.callers .skip s.H
        | none => none
    | .drawn ops wt left L pend :: k => adrawn E f s.callers s.H ops wt left L pend k
    | .drawnIn .. :: _ => none
    | .inRangeFunc _ :: _ => none
    | .endRangeFunc l :: k => match s.H.get l with
      | .loop st pend fn nt tm ps a b ds => bif st == .busy then none else
          some ⟨{ f with todo := (match pend with
            | some c => .code c :: k
            | none => k) }, s.callers, s.H.set l (.loop .exhausted pend fn nt tm ps a b ds)⟩
      | _ => none
    | .beginRound :: _ => match f.round with
      | some l => match s.H.get l with
        | .loop st pend fn nt tm ps a b ds => match st with
          | .ready => aapply E f s.callers .skip (s.H.set l (.loop .busy pend fn nt tm ps a b ds))
          | _ => none
        | _ => none
      | none => none

/-- MANY STEPS. -/
def arun (E : Env) : Nat → AState → Option AState
  | 0, s => some s
  | n + 1, s => match astep E s with
    | some s' => arun E n s'
    | none => none
end Go.Am
/- An abstract machine for the model's code, part 20: what a state of the machine says of the model's. -/
namespace Go.Am
open Go Go.RowKit

variable {E : Env} {P : Program} {B : Nat} {W : World} {G : Nat} {ρ : Ren} {H : AHeap} {w : World}

def AMode.conc : AMode → FrameMode
  | .run => .run
  | .returning => .returning

def RoundRel (ρ : Ren) : Option Nat → Option Nat → Prop
  | none, none => True
  | some l, some l' => ∃ lo, ρ l = some lo ∧ l' = lo.b
  | _, _ => False

def ItemRel (ρ : Ren) : AItem → Item → Prop
  | .code c, .code c' => c' = c
  | .inBlock i, .inBlock j => j = i
  | .inLoop b, .inLoop c => c = b
  | .inScope b, .inScope c => c = b
  | .ops ops l, .inRegion ops' rest => ops' = ops ∧ ∃ k, rest = List.range' k l.length ∧ l = ops.toList.drop k
  | .inRangeFunc l, .inRangeFunc l' => ∃ lo, ρ l = some lo ∧ l' = lo.b
  | .endRangeFunc l, .endRangeFunc l' => ∃ lo, ρ l = some lo ∧ l' = lo.b
  | .beginRound, .beginRound => True
  | _, _ => False

def ItemsRel (ρ : Ren) : List AItem → List Item → Prop
  | [], [] => True
  | a :: l, b :: m => ItemRel ρ a b ∧ ItemsRel ρ l m
  | _, _ => False

def ADRel (ρ : Ren) : AD → Deferred → Prop
  | .call d, d' => defRel ρ d d'
  | .coll r, d' => ∃ lo, ρ r = some lo ∧ d' = { target := .collected lo.b, args := #[] }

def ADsRel (ρ : Ren) : List AD → List Deferred → Prop
  | [], [] => True
  | a :: l, b :: m => ADRel ρ a b ∧ ADsRel ρ l m
  | _, _ => False

theorem RoundRel.mono {ρ ρ' : Ren} (k : ρ.le ρ') : ∀ {a b : Option Nat}, RoundRel ρ a b → RoundRel ρ' a b
  | none, none, _ => trivial
  | some _, some _, ⟨lo, h, e⟩ => ⟨lo, k _ _ h, e⟩
  | none, some _, h => h.elim
  | some _, none, h => h.elim

theorem ItemRel.mono {ρ ρ' : Ren} (k : ρ.le ρ') {a : AItem} {b : Item} (h : ItemRel ρ a b) : ItemRel ρ' a b := by
  cases a <;> cases b <;> first | exact h | exact h.elim | (obtain ⟨lo, h1, h2⟩ := h; exact ⟨lo, k _ _ h1, h2⟩)

theorem ItemsRel.mono {ρ ρ' : Ren} (k : ρ.le ρ') : ∀ {a : List AItem} {b : List Item}, ItemsRel ρ a b → ItemsRel ρ' a b
  | [], [], _ => trivial
  | _ :: _, _ :: _, h => ⟨h.1.mono k, h.2.mono k⟩
  | [], _ :: _, h => h.elim
  | _ :: _, [], h => h.elim

theorem ADRel.mono {ρ ρ' : Ren} (k : ρ.le ρ') {a : AD} {b : Deferred} (h : ADRel ρ a b) : ADRel ρ' a b := by
  cases a with
  | call d => exact defRel.mono h k
  | coll r => obtain ⟨lo, h1, h2⟩ := h; exact ⟨lo, k _ _ h1, h2⟩

theorem ADsRel.mono {ρ ρ' : Ren} (k : ρ.le ρ') : ∀ {a : List AD} {b : List Deferred}, ADsRel ρ a b → ADsRel ρ' a b
  | [], [], _ => trivial
  | _ :: _, _ :: _, h => ⟨h.1.mono k, h.2.mono k⟩
  | [], _ :: _, h => h.elim
  | _ :: _, [], h => h.elim

/-- Those that come before each: as the edges say, and below. -/
structure Masks (ops : Array Oper) (ms : Nat → Nat) : Prop where
  low : ∀ i o, ops[i]? = some o → ∀ e ∈ o.after, Region.binds .any e = true → e.on < i ∧ (ms i).testBit e.on = true
  up : ∀ i o, ops[i]? = some o → ∀ j, (ms i).testBit j = true → ∃ e ∈ o.after, Region.binds .any e = true ∧ (e.on = j ∨ (ms e.on).testBit j = true)

/-- What is left of an order, behind those that are listed. -/
def Lin (ops : Array Oper) (S : Array Bool) (rest : List Nat) : Prop :=
  ∃ fuel t, rest = Region.linearise.go .any ops fuel t S [] ∧ ((List.range ops.size).filter fun i => !S.getD i true).length ≤ fuel

theorem Lin.start (ops : Array Oper) (t : Nat) : Lin ops (Array.replicate ops.size false) (Region.linearise .any ops t) := by
  refine ⟨ops.size, t, rfl, ?_⟩
  exact Nat.le_trans (List.length_filter_le _ _) (by simp)

theorem Lin.cases {ops : Array Oper} {S : Array Bool} {rest : List Nat} (h : Lin ops S rest) (hs : S.size = ops.size) :
    (rest = [] ∧ Region.ready .any ops S = []) ∨ ∃ i rest', rest = i :: rest' ∧ i ∈ Region.ready .any ops S ∧ Lin ops (S.setIfInBounds i true) rest' := by
  obtain ⟨fuel, t, h1, h2⟩ := h
  cases fuel with
  | zero =>
    left
    refine ⟨by simpa [Region.linearise.go] using h1, ?_⟩
    have h0 : (List.range ops.size).filter (fun i => !S.getD i true) = [] := List.length_eq_zero_iff.1 (by omega)
    rw [List.filter_eq_nil_iff] at h0
    unfold Region.ready
    rw [List.filter_eq_nil_iff]
    intro i hi hc
    refine h0 i hi ?_
    rw [Bool.and_eq_true] at hc
    exact hc.1
  | succ fuel =>
    simp only [Region.linearise.go] at h1
    change rest = (match (Region.ready .any ops S)[t % (Region.ready .any ops S).length]? with
      | some i => Region.linearise.go .any ops fuel (t / (Region.ready .any ops S).length) (S.setIfInBounds i true) [i]
      | none => [].reverse) at h1
    cases hi : (Region.ready .any ops S)[t % (Region.ready .any ops S).length]? with
    | none =>
      left
      rw [hi] at h1
      refine ⟨h1, ?_⟩
      cases hr : Region.ready .any ops S with
      | nil => rfl
      | cons x xs =>
        rw [hr] at hi
        have hlt : t % (x :: xs).length < (x :: xs).length := Nat.mod_lt _ (by simp)
        rw [List.getElem?_eq_none_iff] at hi
        omega
    | some i =>
      right
      rw [hi] at h1
      simp only at h1
      rw [linearise_go_acc, List.reverse_singleton, List.singleton_append] at h1
      have hmem := List.mem_of_getElem? hi
      refine ⟨i, _, h1, hmem, fuel, _, rfl, ?_⟩
      have hm := hmem
      unfold Region.ready at hm
      rw [List.mem_filter, List.mem_range, Bool.and_eq_true] at hm
      have hlt : i < S.size := by rw [hs]; exact hm.1
      have hold : S[i]? = some false := by
        have := hm.2.1
        rw [Array.getD_eq_getD_getElem?] at this
        rw [Array.getElem?_eq_getElem hlt] at this ⊢
        simpa using this
      have hsub : ∀ (l : List Nat), l.Nodup → i ∈ l → (l.filter fun j => !(S.setIfInBounds i true).getD j true).length + 1 ≤ (l.filter fun j => !S.getD j true).length := by
        intro l hnd hil
        have e1 : (l.filter fun j => !(S.setIfInBounds i true).getD j true) = (l.filter fun j => !S.getD j true).filter (fun j => j != i) := by
          rw [List.filter_filter]
          congr 1; funext j
          simp only [Array.getD_eq_getD_getElem?]
          by_cases hj : j = i
          · subst hj
            rw [Array.getElem?_setIfInBounds_self_of_lt hlt]; simp
          · rw [Array.getElem?_setIfInBounds_ne (fun h => hj h.symm)]
            have : (j != i) = true := by simpa using hj
            rw [this]; simp
        rw [e1]
        have hin : i ∈ l.filter fun j => !S.getD j true := by
          rw [List.mem_filter]
          exact ⟨hil, by rw [Array.getD_eq_getD_getElem?, hold]; rfl⟩
        have hnd' : (l.filter fun j => !S.getD j true).Nodup := hnd.filter _
        have := List.length_filter_lt_length_iff_exists.2 (show ∃ x ∈ (l.filter fun j => !S.getD j true), ¬ (x != i) = true from ⟨i, hin, by simp⟩)
        omega
      have := hsub (List.range ops.size) List.nodup_range (List.mem_range.2 hm.1)
      omega

/-- All is listed, where nothing is ready. -/
theorem all_listed {ops : Array Oper} {ms : Nat → Nat} (hm : Masks ops ms) {S : Array Bool} (hs : S.size = ops.size) (h : Region.ready .any ops S = []) : ∀ i, i < ops.size → S[i]? = some true := by
  intro i
  induction i using Nat.strongRecOn with
  | ind i ih =>
    intro hi
    have hl : i < S.size := by omega
    unfold Region.ready at h
    rw [List.filter_eq_nil_iff] at h
    have := h i (List.mem_range.2 hi)
    rw [Bool.and_eq_true] at this
    rw [Array.getElem?_eq_getElem hl]
    cases hb : S[i] with
    | true => rfl
    | false =>
      exfalso
      refine this ⟨?_, ?_⟩
      · rw [Array.getD_eq_getD_getElem?, Array.getElem?_eq_getElem hl, hb]; rfl
      · rw [Array.getElem?_eq_getElem hi]
        simp only [Option.map_some, Option.getD_some]
        rw [Array.all_eq_true_iff_forall_mem]
        intro e he
        cases hbd : Region.binds .any e with
        | false => rfl
        | true =>
          obtain ⟨a, _⟩ := hm.low i _ (Array.getElem?_eq_getElem hi) e he hbd
          have := ih e.on a (by omega)
          rw [Array.getD_eq_getD_getElem?, this]; rfl

theorem ready_spec {ops : Array Oper} {S : Array Bool} (hs : S.size = ops.size) {i : Nat} (h : i ∈ Region.ready .any ops S) :
    i < ops.size ∧ S[i]? = some false ∧ ∃ o, ops[i]? = some o ∧ ∀ e ∈ o.after, Region.binds .any e = true → S[e.on]? = some true := by
  unfold Region.ready at h
  rw [List.mem_filter, List.mem_range, Bool.and_eq_true] at h
  obtain ⟨h1, h2, h3⟩ := h
  have hl : i < S.size := by omega
  refine ⟨h1, ?_, ops[i], Array.getElem?_eq_getElem h1, ?_⟩
  · rw [Array.getD_eq_getD_getElem?] at h2
    rw [Array.getElem?_eq_getElem hl] at h2 ⊢
    simpa using h2
  · rw [Array.getElem?_eq_getElem h1] at h3
    simp only [Option.map_some, Option.getD_some] at h3
    rw [Array.all_eq_true_iff_forall_mem] at h3
    intro e he hb
    have := h3 e he
    rw [hb] at this
    simp only [Bool.not_true, Bool.false_or] at this
    rw [Array.getD_eq_getD_getElem?] at this
    cases hq : S[e.on]? with
    | none => rw [hq] at this; cases this
    | some b => rw [hq] at this; simp at this; rw [this]

/-- WHAT IS SAID WHILE A REGION OF A DRAWN ORDER RUNS. -/
structure DInv (ρ : Ren) (ops : Array Oper) (wt : T Nat) (left : List DOp) (L : Nat) (pend : List Pend) (tm : T AV) (tmps : Array Value) (x : Option Nat) (rest : List Nat) (R : Nat → Prop) (ms : Nat → Nat) (S : Array Bool) : Prop where
  hmasks : Masks ops ms
  hwt : ∀ i o t, ops[i]? = some o → o.dst = some t → wt.get t = some i
  hlin : Lin ops S rest
  hsize : S.size = ops.size
  hclosed : ∀ i, S[i]? = some true → ∀ j, (ms i).testBit j = true → S[j]? = some true
  hsub : ∀ i, S[i]? = some true → L.testBit i = true
  hundone : ∀ i, i < ops.size → L.testBit i = true → S[i]? = some true ∨ ∃ p ∈ pend, p.d.i = i
  hpend : ∀ p ∈ pend, ops[p.d.i]? = some p.d.o ∧ p.d.M = ms p.d.i ∧ L.testBit p.d.i = true
  hleft : ∀ i, i < ops.size → L.testBit i = false → ∃ d ∈ left, d.i = i
  hleft2 : ∀ d ∈ left, ops[d.i]? = some d.o ∧ d.M = ms d.i ∧ L.testBit d.i = false
  hsorted : left.Pairwise fun a b => a.i < b.i
  htm : ∀ t v, tm.get t = some v → (∀ i o, ops[i]? = some o → o.dst = some t → ¬ (L.testBit i = true ∧ S[i]? = some false) ∧ x ≠ some i) → ∃ v', conc ρ v = some v' ∧ tmps[t]? = some v'
  hnt : ∀ t v, tm.get t = some v → t < tmps.size
  hres : ∀ p ∈ pend, p.born = true → S[p.d.i]? = some false → R p.r
  hresd : ∀ p ∈ pend, ∀ q ∈ pend, p.born = true → q.born = true → S[p.d.i]? = some false → S[q.d.i]? = some false → p.r = q.r → p.d.i = q.d.i

def DRel (ρ : Ren) (ops : Array Oper) (wt : T Nat) (left : List DOp) (L : Nat) (pend : List Pend) (tm : T AV) (tmps : Array Value) (x : Option Nat) (rest : List Nat) (R : Nat → Prop) : Prop :=
  ∃ ms S, DInv ρ ops wt left L pend tm tmps x rest R ms S

theorem DRel.mono {ρ ρ' : Ren} (k : ρ.le ρ') {ops : Array Oper} {wt : T Nat} {left : List DOp} {L : Nat} {pend : List Pend} {tm : T AV} {tmps : Array Value} {x : Option Nat} {rest : List Nat} {R : Nat → Prop}
    (h : DRel ρ ops wt left L pend tm tmps x rest R) : DRel ρ' ops wt left L pend tm tmps x rest R := by
  obtain ⟨ms, S, h⟩ := h
  exact ⟨ms, S, { h with htm := fun t v e g => let ⟨v', a, b⟩ := h.htm t v e g; ⟨v', conc_mono k _ _ a, b⟩ }⟩

def headDrawn : List AItem → Bool
  | .drawn .. :: _ => true
  | .drawnIn .. :: _ => true
  | _ => false

/-- What is known of a frame's temporaries and of what it has to do. -/
inductive TodoRel (ρ : Ren) (nt : Nat) (tm : T AV) (tmps : Array Value) : AMode → List AItem → List Item → (Nat → Prop) → Prop
  | returning {todo todo' R} (h : tmRel ρ nt tm tmps) (hR : ∀ r, ¬ R r) : TodoRel ρ nt tm tmps .returning todo todo' R
  | plain {todo todo' R} (h : tmRel ρ nt tm tmps) (hi : ItemsRel ρ todo todo') (hR : ∀ r, ¬ R r) : TodoRel ρ nt tm tmps .run todo todo' R
  | drawn {ops wt left L pend k rest k' R} (h : tmps.size = nt) (hd : DRel ρ ops wt left L pend tm tmps none rest R) (hi : ItemsRel ρ k k') :
    TodoRel ρ nt tm tmps .run (.drawn ops wt left L pend :: k) (.inRegion ops rest :: k') R
  | drawnIn {ops wt e left L pend k rest k' R} (h : tmps.size = nt) (he : ops[e.i]? = some e.o) (hd : DRel ρ ops wt left L pend tm tmps (some e.i) rest R) (hi : ItemsRel ρ k k') :
    TodoRel ρ nt tm tmps .run (.drawnIn ops wt e left L pend :: k) (.inRegion ops (e.i :: rest) :: k') R

theorem TodoRel.mono {ρ ρ' : Ren} (k : ρ.le ρ') {nt : Nat} {tm : T AV} {tmps : Array Value} {m : AMode} {a : List AItem} {b : List Item} {R : Nat → Prop} (h : TodoRel ρ nt tm tmps m a b R) : TodoRel ρ' nt tm tmps m a b R := by
  cases h with
  | returning h hR => exact .returning (h.mono k) hR
  | plain h hi hR => exact .plain (h.mono k) (hi.mono k) hR
  | drawn h hd hi => exact .drawn h (hd.mono k) (hi.mono k)
  | drawnIn h he hd hi => exact .drawnIn h he (hd.mono k) (hi.mono k)

structure FrRel (ρ : Ren) (f : AFrame) (fr : Frame) (R : Nat → Prop) : Prop where
  fn : fr.fn = f.fn
  kind : fr.kind = if f.deferred then .deferred else .normal
  mode : fr.mode = f.mode.conc
  round : RoundRel ρ f.round fr.roundOf
  nt : f.nt + 1 < 2 ^ deep
  defers : ADsRel ρ f.defers fr.defers
  todo : TodoRel ρ f.nt f.tm fr.tmps f.mode f.todo fr.todo R

theorem FrRel.mono {ρ ρ' : Ren} (k : ρ.le ρ') {f : AFrame} {fr : Frame} {R : Nat → Prop} (h : FrRel ρ f fr R) : FrRel ρ' f fr R :=
  { h with round := h.round.mono k, defers := h.defers.mono k, todo := h.todo.mono k }

/-- A pile of frames. -/
def StackRel (ρ : Ren) : List AFrame → List Frame → (Nat → Prop) → Prop
  | [], [], R => ∀ r, ¬ R r
  | f :: l, fr :: m, R => ∃ R1 R2, FrRel ρ f fr R1 ∧ StackRel ρ l m R2 ∧ (∀ r, R1 r → ¬ R2 r) ∧ ∀ r, R r ↔ R1 r ∨ R2 r
  | _, _, _ => False

theorem StackRel.mono {ρ ρ' : Ren} (k : ρ.le ρ') : ∀ {a : List AFrame} {b : List Frame} {R : Nat → Prop}, StackRel ρ a b R → StackRel ρ' a b R
  | [], [], _, h => h
  | _ :: _, _ :: _, _, ⟨R1, R2, h1, h2, h3, h4⟩ => ⟨R1, R2, h1.mono k, h2.mono k, h3, h4⟩
  | [], _ :: _, _, h => h.elim
  | _ :: _, [], _, h => h.elim

/-- WHAT A STATE SAYS. -/
structure StRel (B : Nat) (W : World) (G : Nat) (ρ : Ren) (s : AState) (fr : Frame) (cs : List Frame) (w : World) : Prop where
  rel : Rel B W G ρ s.H w
  stack : ∃ R1 R2, FrRel ρ s.top fr R1 ∧ StackRel ρ s.callers cs R2 ∧ (∀ r, R1 r → ¬ R2 r) ∧ ∀ r, R1 r ∨ R2 r → r < s.H.next ∧ ρ r = none

/-- What is to be shown of one step: the model comes there. -/
def Goes (P : Program) (B : Nat) (W : World) (G : Nat) (base : List Frame) (ρ : Ren) (fr : Frame) (cs : List Frame) (w : World) (s' : AState) : Prop :=
  ∃ fr' cs' w' ρ', Steps P (lone fr (cs ++ base) w) (lone fr' (cs' ++ base) w') ∧ StRel B W G ρ' s' fr' cs' w' ∧ ρ.le ρ'
end Go.Am
/- An abstract machine for the model's code, part 21: an operation's end, and what an operation comes to. -/
namespace Go.Am
open Go Go.RowKit

variable {E : Env} {P : Program} {B : Nat} {W : World} {G : Nat} {ρ : Ren} {H : AHeap} {w : World}

theorem tm_eval {nt : Nat} {tm : T AV} {fr : Frame} {t : Tmp} {v : AV} (h : ∃ v', conc ρ v = some v' ∧ fr.tmps[t]? = some v') : conc ρ v = some (fr.eval (.tmp t)) := by
  obtain ⟨v', a, b⟩ := h
  rw [a]
  simp only [Frame.eval, Array.getD_eq_getD_getElem?, b]
  rfl

theorem aev_run (hG : E.gl ≤ G) (hR : Rel B W G ρ H w) {tm : T AV} {fr : Frame} {nt : Nat} (h : tmRel ρ nt tm fr.tmps) : Evr ρ (aev E tm) fr.eval := by
  intro x v e
  cases x with
  | tmp t => exact tm_eval (nt := nt) (tm := tm) (h.2 t v e)
  | const c => exact ofValue_conc e
  | global g =>
    simp only [aev] at e
    rcases bif_some e with ⟨c, h2⟩ | ⟨_, h2⟩
    rotate_left
    · cases h2
    cases h2
    have := blt_lt c
    obtain ⟨C, hC⟩ := hR.glob g (by omega)
    simp only [conc, hC, Nat.zero_add]
    rfl
  | func f => cases e; rfl

theorem aput_run {nt : Nat} (hnt : nt + 1 < 2 ^ deep) {tm : T AV} {tmps : Array Value} (h : tmRel ρ nt tm tmps) (dst : Option Tmp) {v : AV} {v' : Value} (hv : conc ρ v = some v') :
    tmRel ρ nt (aput nt tm dst v) (match dst with | some d => tmps.setIfInBounds d v' | none => tmps) := by
  cases dst with
  | none => exact h
  | some p =>
    refine ⟨by simpa using h.1, fun t u e => ?_⟩
    simp only [aput] at e
    cases hp : Nat.blt p nt with
    | true =>
      rw [hp] at e
      have hlt := blt_lt hp
      simp only [cond_true] at e
      by_cases ht : t = p
      · subst ht
        rw [T.get_set_same deep tm t v (by omega)] at e
        cases e
        exact ⟨v', hv, by rw [Array.getElem?_setIfInBounds_self_of_lt (by rw [h.1]; exact hlt)]⟩
      · rw [T.get_set_ne _ _ _ _ _ ht] at e
        obtain ⟨v', x1, x2⟩ := h.2 t u e
        exact ⟨v', x1, by rw [Array.getElem?_setIfInBounds_ne (fun h => ht h.symm)]; exact x2⟩
    | false =>
      rw [hp] at e
      cases e

/-- A temporary written while others may not be done yet. -/
theorem DInv.put {ops : Array Oper} {wt : T Nat} {left : List DOp} {L : Nat} {pend : List Pend} {tm : T AV} {tmps : Array Value} {i : Nat} {rest : List Nat} {R : Nat → Prop} {ms : Nat → Nat} {S : Array Bool}
    (h : DInv ρ ops wt left L pend tm tmps (some i) rest R ms S) {nt : Nat} (hnt : nt + 1 < 2 ^ deep) (hs : tmps.size = nt) {o : Oper} (ho : ops[i]? = some o) {v : AV} {v' : Value} (hv : conc ρ v = some v') :
    DInv ρ ops wt left L pend (aput nt tm o.dst v) (match o.dst with | some d => tmps.setIfInBounds d v' | none => tmps) none rest R ms S := by
  refine { h with htm := ?_, hnt := ?_ }
  rotate_left
  · intro t u e
    cases hd : o.dst with
    | none => rw [hd] at e; exact h.hnt t u e
    | some p =>
      rw [hd] at e
      simp only [aput] at e
      cases hp : Nat.blt p nt with
      | true =>
        rw [hp] at e
        have hlt := blt_lt hp
        simp only [cond_true] at e
        simp only [Array.size_setIfInBounds]
        by_cases ht : t = p
        · subst ht; omega
        · rw [T.get_set_ne _ _ _ _ _ ht] at e
          exact h.hnt t u e
      | false => rw [hp] at e; cases e
  intro t u e g
  cases hd : o.dst with
  | none =>
    rw [hd] at e
    refine h.htm t u e fun j oj hj hdj => ⟨(g j oj hj hdj).1, fun hij => ?_⟩
    cases hij
    rw [ho] at hj; cases hj
    rw [hd] at hdj; cases hdj
  | some p =>
    rw [hd] at e
    simp only [aput] at e
    have hkeep : t ≠ p → tm.get t = some u → ∃ v'_1, conc ρ u = some v'_1 ∧ (tmps.setIfInBounds p v')[t]? = some v'_1 := by
      intro ht e
      obtain ⟨u', x1, x2⟩ := h.htm t u e fun j oj hj hdj => ⟨(g j oj hj hdj).1, fun hij => by
        cases hij
        rw [ho] at hj; cases hj
        rw [hd] at hdj; cases hdj
        exact ht rfl⟩
      exact ⟨u', x1, by rw [Array.getElem?_setIfInBounds_ne (fun h => ht h.symm)]; exact x2⟩
    cases hp : Nat.blt p nt with
    | true =>
      rw [hp] at e
      have hlt := blt_lt hp
      simp only [cond_true] at e
      by_cases ht : t = p
      · subst ht
        rw [T.get_set_same deep tm t v (by omega)] at e
        cases e
        exact ⟨v', hv, by simp only; rw [Array.getElem?_setIfInBounds_self_of_lt (by rw [hs]; exact hlt)]⟩
      · rw [T.get_set_ne _ _ _ _ _ ht] at e
        exact hkeep ht e
    | false =>
      rw [hp] at e
      cases e

/-- The end of an operation. -/
theorem finish_run {f f' : AFrame} {fr : Frame} {R : Nat → Prop} (h : FrRel ρ f fr R) {v : AV} {v' : Value} (hf : f.finish v = some f') (hv : conc ρ v = some v') : FrRel ρ f' (fr.finish v') R := by
  obtain ⟨h1, h2, h3, h4, h5, h6, h7⟩ := h
  unfold AFrame.finish at hf
  split at hf
  · cases hf
  rename_i hm
  rw [hm] at h7
  split at hf
  · rename_i ops o l k htodo
    cases hf
    rw [htodo] at h7
    cases h7 with
    | plain h hi hR =>
      cases hft : fr.todo with
      | nil => rw [hft] at hi; exact hi.elim
      | cons it k' =>
        rw [hft] at hi
        obtain ⟨hi1, hi2⟩ := hi
        cases it <;> try exact hi1.elim
        rename_i ops' rest
        obtain ⟨rfl, j, hj1, hj2⟩ := hi1
        have hoj : ops'[j]? = some o := by
          rw [← Array.getElem?_toList]
          have := congrArg List.head? hj2
          simp only [List.head?_cons, List.head?_drop] at this
          exact this.symm
        have hl : l = ops'.toList.drop (j + 1) := by
          have := congrArg List.tail hj2
          simp only [List.tail_cons, List.tail_drop] at this
          exact this
        simp only [List.length_cons, List.range'_succ] at hj1
        subst hj1
        have hfin : fr.finish v' = { fr with tmps := (match o.dst with | some d => fr.tmps.setIfInBounds d v' | none => fr.tmps), todo := .inRegion ops' (List.range' (j + 1) l.length) :: k' } := by
          simp only [Frame.finish, hft, hoj, Option.bind_some]
          cases o.dst <;> rfl
        rw [hfin]
        refine ⟨h1, h2, h3, h4, h5, h6, ?_⟩
        show TodoRel ρ _ _ _ f.mode _ _ _
        rw [hm]
        exact .plain (aput_run h5 h o.dst hv) (show ItemsRel ρ (.ops ops' l :: k) (.inRegion ops' (List.range' (j + 1) l.length) :: k') from ⟨⟨rfl, j + 1, rfl, hl⟩, hi2⟩) hR
  · rename_i ops wt e left L pend k htodo
    cases hf
    rw [htodo] at h7
    generalize hft : fr.todo = ft at h7
    cases h7 with
    | plain h hi hR =>
      cases ft with
      | nil => exact hi.elim
      | cons it k' => exact absurd hi.1 (by cases it <;> exact id)
    | drawnIn h he hd hi =>
      rename_i rest k'
      have hfin : fr.finish v' = { fr with tmps := (match e.o.dst with | some d => fr.tmps.setIfInBounds d v' | none => fr.tmps), todo := .inRegion ops rest :: k' } := by
        simp only [Frame.finish, hft, he, Option.bind_some]
        cases e.o.dst <;> rfl
      rw [hfin]
      obtain ⟨ms, S, hd⟩ := hd
      refine ⟨h1, h2, h3, h4, h5, h6, ?_⟩
      show TodoRel ρ _ _ _ f.mode _ _ _
      rw [hm]
      refine .drawn ?_ ⟨ms, S, hd.put h5 h he hv⟩ hi
      cases e.o.dst <;> simpa using h
  · rename_i l k htodo
    cases hf
    rw [htodo] at h7
    cases h7 with
    | plain h hi hR =>
      cases hft : fr.todo with
      | nil => rw [hft] at hi; exact hi.elim
      | cons it k' =>
        rw [hft] at hi
        obtain ⟨hi1, hi2⟩ := hi
        cases it <;> try exact hi1.elim
        rename_i l'
        have hfin : fr.finish v' = { fr with todo := .endRangeFunc l' :: k' } := by
          simp only [Frame.finish, hft]
        rw [hfin]
        refine ⟨h1, h2, h3, h4, h5, h6, ?_⟩
        show TodoRel ρ _ _ _ f.mode _ _ _
        rw [hm]
        exact .plain h (show ItemsRel ρ (.endRangeFunc l :: k) (.endRangeFunc l' :: k') from ⟨hi1, hi2⟩) hR
  · rename_i k htodo
    cases hf
    rw [htodo] at h7
    cases h7 with
    | plain h hi hR =>
      cases hft : fr.todo with
      | nil => rw [hft] at hi; exact hi.elim
      | cons it k' =>
        rw [hft] at hi
        obtain ⟨hi1, hi2⟩ := hi
        cases it <;> try exact hi1.elim
        have hfin : fr.finish v' = { fr with todo := k' } := by
          simp only [Frame.finish, hft]
        rw [hfin]
        refine ⟨h1, h2, h3, h4, h5, h6, ?_⟩
        show TodoRel ρ _ _ _ f.mode _ _ _
        rw [hm]
        exact .plain h hi2 hR
  · cases hf

theorem argsTm_get : ∀ (args : List AV) (i : Nat) (tm : T AV) (t : Nat) (v : AV), i + args.length + 1 < 2 ^ deep → (argsTm i tm args).get t = some v → (∃ k, args[k]? = some v ∧ t = i + k) ∨ tm.get t = some v
  | [], _, _, _, _, _, h => .inr h
  | a :: l, i, tm, t, v, hb, h => by
    simp only [argsTm] at h
    simp only [List.length_cons] at hb
    rcases argsTm_get l (i + 1) _ t v (by omega) h with ⟨k, h1, h2⟩ | h1
    · exact .inl ⟨k + 1, by simpa using h1, by omega⟩
    · by_cases ht : t = i
      · subst ht
        rw [T.get_set_same deep tm t a (by omega)] at h1
        cases h1
        exact .inl ⟨0, rfl, rfl⟩
      · rw [T.get_set_ne _ _ _ _ _ ht] at h1
        exact .inr h1

/-- A call begun. -/
theorem enter_run (hE : E.Ok P) {g : FuncId} {x : Func} (hg : E.fn.get g = some x) {args : List AV} {args' : List Value} (ha : concL ρ args = some args') {d : Bool} {f' : AFrame} (h : AFrame.enter g x args d = some f')
    {kind : CallKind} (hk : kind = if d then .deferred else .normal) : FrRel ρ f' (Frame.enter P g args'.toArray kind) (fun _ => False) := by
  unfold AFrame.enter at h
  split at h
  rotate_left
  · cases h
  rename_i c hc
  rcases bif_some h with ⟨hb, h2⟩ | ⟨_, h2⟩
  rotate_left
  · cases h2
  cases h2
  have hb := blt_lt hb
  have hlen := concL_length ha
  obtain ⟨hf, _, _⟩ := hE.fn g x hg
  have hen : Frame.enter P g args'.toArray kind = { fn := g, tmps := args'.toArray ++ Array.replicate (x.ntmps - args'.length) undef, todo := [.code c], defers := [], mode := .run, kind } := by
    simp [Frame.enter, hf, hc]
  rw [hen]
  refine ⟨rfl, hk, rfl, trivial, ?_, trivial, .plain ⟨by simp [hlen], fun t v e => ?_⟩ ⟨rfl, trivial⟩ (fun _ h => h)⟩
  · show args.length + (x.ntmps - args.length) + 1 < 2 ^ deep
    have : deep = 24 := rfl
    rw [this]; omega
  · rcases argsTm_get args 0 .e t v (by have : deep = 24 := rfl; rw [this]; omega) e with ⟨k, h1, h2⟩ | h1
    · obtain ⟨v', p, q⟩ := concL_get ha k v h1
      refine ⟨v', q, ?_⟩
      have hkl : k < args'.length := by
        rcases Nat.lt_or_ge k args'.length with h | h
        · exact h
        · rw [List.getElem?_eq_none h] at p; cases p
      rw [Array.getElem?_append_left (by simp; omega)]
      simp only [Nat.zero_add] at h2
      subst h2
      simpa using p
    · cases h1

def noCall : List Item → Prop
  | .call .. :: _ => False
  | .extern .. :: _ => False
  | _ => True

theorem todo_noCall {nt : Nat} {tm : T AV} {tmps : Array Value} {m : AMode} {a : List AItem} {b : List Item} {R : Nat → Prop} (h : TodoRel ρ nt tm tmps m a b R) (hm : m = .run) : noCall b := by
  cases h with
  | returning => cases hm
  | plain h hi hR =>
    cases a with
    | nil => cases b with
      | nil => trivial
      | cons => exact hi.elim
    | cons x l => cases b with
      | nil => trivial
      | cons y m => obtain ⟨h1, _⟩ := hi; cases y <;> first | trivial | (cases x <;> exact h1.elim)
  | drawn => trivial
  | drawnIn => trivial

theorem StackRel.mode : ∀ {a : List AFrame} {b : List Frame} {R : Nat → Prop}, StackRel ρ a b R → ∀ fr ∈ b, fr.mode = .run ∨ fr.mode = .returning
  | [], [], _, _, _, h => by cases h
  | f :: _, _ :: _, _, ⟨_, _, h1, h2, _, _⟩, fr, h => by
    rcases List.mem_cons.1 h with rfl | h
    · rw [h1.mode]; cases f.mode <;> simp [AMode.conc]
    · exact StackRel.mode h2 fr h

theorem tryRecover_none {fr : Frame} {cs base : List Frame} (hk : fr.kind = .normal ∨ (fr.kind = .deferred ∧ cs ≠ [])) (hm : ∀ c ∈ cs, c.mode = .run ∨ c.mode = .returning) : tryRecover fr (cs ++ base) = none := by
  rcases hk with hk | ⟨hk, hne⟩
  · unfold tryRecover; rw [hk]
  · cases cs with
    | nil => exact absurd rfl hne
    | cons c cs =>
      unfold tryRecover; rw [hk]
      simp only [List.cons_append]
      rcases hm c (List.mem_cons_self ..) with h | h <;> rw [h]

/-- WHAT AN OPERATION COMES TO. -/
theorem apply_run (hE : E.Ok P) (hR : Rel B W G ρ H w) {f : AFrame} {fr : Frame} {R1 R2 : Nat → Prop} (hf : FrRel ρ f fr R1) (hrun : f.mode = .run) {callers : List AFrame} {cs : List Frame} (hcs : StackRel ρ callers cs R2)
    (hd : ∀ r, R1 r → ¬ R2 r) (hres : ∀ r, R1 r ∨ R2 r → r < H.next ∧ ρ r = none) {s : Sem Next} {nx : ANext} {H' : AHeap} (hs : Step P B W G ρ H w s nx H') {st : AState} (ha : aapply E f callers nx H' = some st) (base : List Frame) :
    ∃ fr' cs' w' ρ', (stepG.apply P true fr (cs ++ base) none s w).bare = .go { frame := fr', callers := cs' ++ base, status := .running, dying := none } w' ∧ StRel B W G ρ' st fr' cs' w' ∧ ρ.le ρ' := by
  obtain ⟨ρ', w', nx', h1, h2, h3, h4, h5⟩ := hs
  have hle := hR.le h4
  have hnc := todo_noCall hf.todo hrun
  have hf' := hf.mono hle
  have hcs' := hcs.mono hle
  have hres' : ∀ r, R1 r ∨ R2 r → r < H'.next ∧ ρ' r = none := fun r hr => by
    obtain ⟨a, b⟩ := hres r hr
    exact ⟨by omega, (h4 r a).trans b⟩
  unfold aapply at ha
  split at ha
  · rename_i v
    cases nx' <;> simp only [nextRel] at h2
    rename_i v'
    split at ha
    rotate_left
    · cases ha
    rename_i f' hff
    cases ha
    exact ⟨fr.finish v', cs, w', ρ', by simp [stepG.apply, Sem.runT_eq, h1], ⟨h3, R1, R2, finish_run hf' hff h2, hcs', hd, hres'⟩, hle⟩
  · cases nx' <;> simp only [nextRel] at h2
    split at ha
    rotate_left
    · cases ha
    rename_i f' hff
    cases ha
    exact ⟨fr.finish undef, cs, w', ρ', by simp [stepG.apply, Sem.runT_eq, h1], ⟨h3, R1, R2, finish_run hf' hff (by simp [conc, concL, undef]), hcs', hd, hres'⟩, hle⟩
  · rename_i g args
    cases nx' <;> simp only [nextRel] at h2
    rename_i g' args'
    obtain ⟨rfl, l, h6, rfl⟩ := h2
    split at ha
    rotate_left
    · cases ha
    rename_i x hx
    split at ha
    rotate_left
    · cases ha
    rename_i f' hff
    cases ha
    refine ⟨Frame.enter P g' l.toArray .normal, fr :: cs, w', ρ', ?_, ⟨h3, _, fun r => R1 r ∨ R2 r, enter_run hE hx h6 hff rfl, ⟨R1, R2, hf', hcs', hd, fun _ => Iff.rfl⟩, fun r h => h.elim, fun r h => hres' r (h.elim (fun h => h.elim) id)⟩, hle⟩
    cases htd : fr.todo with
    | nil => simp [stepG.apply, Sem.runT_eq, h1, htd]
    | cons it k =>
      rw [htd] at hnc
      cases it <;> first | exact hnc.elim | simp [stepG.apply, Sem.runT_eq, h1, htd]
  · rename_i l fn nt tm a b
    cases nx' <;> simp only [nextRel] at h2
    rename_i l' fn' tmps' a' b'
    obtain ⟨⟨lo, h6, rfl⟩, rfl, h7, rfl, rfl⟩ := h2
    rcases bif_some ha with ⟨c, ha⟩ | ⟨_, ha⟩
    rotate_left
    · cases ha
    cases ha
    have hb : nt + 1 < 2 ^ deep := blt_lt c
    refine ⟨Frame.round lo.b fn' tmps' a' b' .normal, fr :: cs, w', ρ', ?_, ⟨h3, _, fun r => R1 r ∨ R2 r, ⟨rfl, rfl, rfl, ⟨lo, h6, rfl⟩, hb, trivial, .plain h7 ⟨rfl, trivial, rfl, trivial⟩ (fun _ h => h)⟩, ⟨R1, R2, hf', hcs', hd, fun _ => Iff.rfl⟩, fun r h => h.elim, fun r h => hres' r (h.elim (fun h => h.elim) id)⟩, hle⟩
    simp [stepG.apply, Sem.runT_eq, h1]
  · rename_i d
    cases nx' <;> simp only [nextRel] at h2
    rename_i d'
    split at ha
    rotate_left
    · cases ha
    rename_i hro
    split at ha
    rotate_left
    · cases ha
    rename_i f' hff
    cases ha
    have hf2 : FrRel ρ' { f with defers := .call d :: f.defers } { fr with defers := d' :: fr.defers } R1 :=
      { hf' with defers := ⟨h2, hf'.defers⟩ }
    refine ⟨({ fr with defers := d' :: fr.defers } : Frame).finish undef, cs, w', ρ', ?_, ⟨h3, R1, R2, finish_run hf2 hff (by simp [conc, concL, undef]), hcs', hd, hres'⟩, hle⟩
    simp [stepG.apply, Sem.runT_eq, h1]
  · cases nx' <;> simp only [nextRel] at h2
    split at ha
    rotate_left
    · cases ha
    rename_i hro
    rcases bif_some ha with ⟨c, ha⟩ | ⟨_, ha⟩
    rotate_left
    · cases ha
    split at ha
    rotate_left
    · cases ha
    rename_i f' hff
    cases ha
    have hro' : fr.roundOf = none := by
      have := hf.round
      rw [hro] at this
      cases hq : fr.roundOf with
      | none => rfl
      | some _ => rw [hq] at this; exact this.elim
    have htr : tryRecover fr (cs ++ base) = none := by
      refine tryRecover_none ?_ hcs.mode
      rw [hf.kind]
      cases hdf : f.deferred with
      | false => left; rfl
      | true =>
        right
        refine ⟨rfl, fun hn => ?_⟩
        rw [hdf] at c
        subst hn
        cases callers with
        | nil => cases c
        | cons => exact hcs.elim
    refine ⟨fr.finish .nilIface, cs, w', ρ', ?_, ⟨h3, R1, R2, finish_run hf' hff (by simp [conc]), hcs', hd, hres'⟩, hle⟩
    simp [stepG.apply, Sem.runT_eq, h1, hro', htr]
end Go.Am
/- An abstract machine for the model's code, part 22: one step, but for regions of a drawn order. -/
namespace Go.Am
open Go Go.RowKit

variable {E : Env} {P : Program} {B : Nat} {W : World} {G : Nat} {ρ : Ren} {H : AHeap} {w : World} {base : List Frame}

theorem exitTo_run (id : Nat) : ∀ {k : List AItem} {k' : List Item}, ItemsRel ρ k k' →
    (∀ k2, aexitTo id k = some k2 → ∃ k2', exitTo id k' = some k2' ∧ ItemsRel ρ k2 k2') ∧ (aexitTo id k = none → exitTo id k' = none)
  | [], [], _ => ⟨fun _ h => (by cases h), fun _ => rfl⟩
  | [], _ :: _, h => h.elim
  | _ :: _, [], h => h.elim
  | a :: l, b :: m, h => by
    obtain ⟨h1, h2⟩ := h
    obtain ⟨g1, g2⟩ := exitTo_run id h2
    cases a <;> cases b <;> first | exact h1.elim | skip
    case inBlock i j =>
      cases h1
      simp only [aexitTo, exitTo]
      cases hb : Nat.beq i id with
      | true =>
        have : (i == id) = true := by simpa using hb
        simp only [this, cond_true, if_true]
        exact ⟨fun k2 h => ⟨_, rfl, by cases h; exact h2⟩, fun h => by cases h⟩
      | false =>
        have : (i == id) = false := by
          cases hq : i == id with
          | false => rfl
          | true => simp at hq; subst hq; simp at hb
        simp only [this, cond_false, Bool.false_eq_true, if_false]
        exact ⟨g1, g2⟩
    all_goals (simp only [aexitTo, exitTo]; exact ⟨g1, g2⟩)

theorem gotoIn_run (id : Nat) : ∀ {k : List AItem} {k' : List Item}, ItemsRel ρ k k' →
    (∀ k2, agotoIn id k = some k2 → ∃ k2', gotoIn id k' = some k2' ∧ ItemsRel ρ k2 k2') ∧ (agotoIn id k = none → gotoIn id k' = none)
  | [], [], _ => ⟨fun _ h => (by cases h), fun _ => rfl⟩
  | [], _ :: _, h => h.elim
  | _ :: _, [], h => h.elim
  | a :: l, b :: m, h => by
    obtain ⟨h1, h2⟩ := h
    obtain ⟨g1, g2⟩ := gotoIn_run id h2
    cases a <;> cases b <;> first | exact h1.elim | skip
    case inScope i j =>
      cases h1
      simp only [agotoIn, gotoIn]
      cases hb : findLabel i id with
      | some rest =>
        simp only
        exact ⟨fun k2 h => ⟨_, rfl, by cases h; exact ⟨rfl, rfl, h2⟩⟩, fun h => by cases h⟩
      | none =>
        simp only
        exact ⟨g1, g2⟩
    all_goals (simp only [agotoIn, gotoIn]; exact ⟨g1, g2⟩)

/-- What is known of a frame that runs, its next item not one of a drawn order. -/
theorem FrRel.head {f : AFrame} {fr : Frame} {R : Nat → Prop} (h : FrRel ρ f fr R) (hm : f.mode = .run) (hh : headDrawn f.todo = false) :
    fr.mode = .run ∧ tmRel ρ f.nt f.tm fr.tmps ∧ ItemsRel ρ f.todo fr.todo ∧ ∀ r, ¬ R r := by
  have h7 := h.todo
  refine ⟨by rw [h.mode, hm]; rfl, ?_⟩
  generalize f.todo = ft at h7 hh
  generalize fr.todo = frt at h7
  rw [hm] at h7
  cases h7 with
  | plain h hi hR => exact ⟨h, hi, hR⟩
  | drawn => cases hh
  | drawnIn => cases hh

theorem FrRel.to {f : AFrame} {fr : Frame} {R : Nat → Prop} (h : FrRel ρ f fr R) (hm : f.mode = .run) (ht : tmRel ρ f.nt f.tm fr.tmps) (hR : ∀ r, ¬ R r) {k : List AItem} {k' : List Item} (hk : ItemsRel ρ k k') :
    FrRel ρ { f with todo := k } { fr with todo := k' } R := by
  refine { h with todo := ?_ }
  show TodoRel ρ _ _ _ f.mode _ _ _
  rw [hm]
  exact .plain ht hk hR

/-- A value returned. -/
theorem return_run {f : AFrame} {fr : Frame} (hkind : fr.kind = if f.deferred then .deferred else .normal) {callers : List AFrame} {cs : List Frame} {R2 : Nat → Prop} (hcs : StackRel ρ callers cs R2)
    (hR : Rel B W G ρ H w) (hres : ∀ r, R2 r → r < H.next ∧ ρ r = none) {v : AV} {v' : Value} (hv : conc ρ v = some v') {st : AState} (h : areturn f callers v H = some st) :
    ∃ fr' cs', doReturn P true fr (cs ++ base) none v' w = .go { frame := fr', callers := cs' ++ base, status := .running, dying := none } w ∧ StRel B W G ρ st fr' cs' w := by
  unfold areturn at h
  split at h
  rotate_left
  · cases h
  rename_i c l
  cases cs with
  | nil => exact hcs.elim
  | cons fc m =>
    obtain ⟨Ra, Rb, h1, h2, h3, h4⟩ := hcs
    have hst : ∀ {c' : AFrame} {fc' : Frame}, FrRel ρ c' fc' Ra → StRel B W G ρ ⟨c', l, H⟩ fc' m w := fun hx =>
      ⟨hR, Ra, Rb, hx, h2, h3, fun r hr => hres r ((h4 r).2 hr)⟩
    cases hdf : f.deferred with
    | true =>
      rw [hdf] at h hkind
      simp only [cond_true] at h
      split at h
      rotate_left
      · cases h
      rename_i hm
      cases h
      have hfm : fc.mode = .returning := by rw [h1.mode, hm]; rfl
      refine ⟨fc, m, ?_, hst h1⟩
      simp [doReturn, hkind, hfm]
    | false =>
      rw [hdf] at h hkind
      simp only [cond_false] at h
      split at h
      rotate_left
      · cases h
      rename_i c' hc'
      cases h
      refine ⟨fc.finish v', m, ?_, hst (finish_run h1 hc' hv)⟩
      simp [doReturn, hkind]

/-- A loop's object. -/
theorem Rel.loopAt (hR : Rel B W G ρ H w) {l : Nat} {lo : Loc} (hl : ρ l = some lo) {st : LoopState} {pend : Option Code} {fn nt : Nat} {tm : T AV} {ps : Array Tmp} {a b : Code} {ds : Nat} (hg : H.get l = .loop st pend fn nt tm ps a b ds) :
    ∃ ld tmps, ρ ds = some ld ∧ tmRel ρ nt tm tmps ∧ w.heap[lo.b]? = some (.loop { state := st, pending := pend, fn, tmps, params := ps, assign := a, body := b, defers := ld.b }) := by
  have ho := hR.obj l lo hl
  rw [hg] at ho
  obtain ⟨ld, tmps, o1, o2, o3, o4⟩ := ho
  exact ⟨ld, tmps, o1, ⟨o2, o3⟩, o4⟩

theorem Rel.setLoop (hR : Rel B W G ρ H w) {l : Nat} {lo : Loc} (hl : ρ l = some lo) {st : LoopState} {pend : Option Code} {fn nt : Nat} {tm : T AV} {ps : Array Tmp} {a b : Code} {ds : Nat} (hg : H.get l = .loop st pend fn nt tm ps a b ds)
    {ld : Loc} {tmps : Array Value} (hd : ρ ds = some ld) (ht : tmRel ρ nt tm tmps) (st2 : LoopState) (pend2 : Option Code) :
    Rel B W G ρ (H.set l (.loop st2 pend2 fn nt tm ps a b ds)) (World.setBlk w lo.b (.loop { state := st2, pending := pend2, fn, tmps, params := ps, assign := a, body := b, defers := ld.b })) := by
  refine hR.setObj hl (by rw [hg]; rfl) (by rw [hg]; rfl) (by rw [hg]; rfl) (by rw [hg]; rfl) ?_
  exact ⟨ld, tmps, hd, ht.1, ht.2, setBlk_same _ _ _ (hR.at_ l lo hl)⟩

/-- A block or a frame left. -/
theorem leave_run {f : AFrame} {fr : Frame} {R1 R2 : Nat → Prop} (hf : FrRel ρ f fr R1) (hm : f.mode = .run) (hh : headDrawn f.todo = false) {callers : List AFrame} {cs : List Frame} (hcs : StackRel ρ callers cs R2)
    (hd : ∀ r, R1 r → ¬ R2 r) (hR : Rel B W G ρ H w) (hres : ∀ r, R1 r ∨ R2 r → r < H.next ∧ ρ r = none) {jump : Option Code} {st : AState} (h : aleave f callers H jump = some st)
    (hj : (jump = none ∧ fr.todo = []) ∨ (jump = some .ret ∧ ∃ k, fr.todo = .code .ret :: k) ∨ (∃ id k, jump = some (.exit id) ∧ fr.todo = .code (.exit id) :: k ∧ exitTo id k = none) ∨
      (∃ id k, jump = some (.goto id) ∧ fr.todo = .code (.goto id) :: k ∧ gotoIn id k = none)) : Goes P B W G base ρ fr cs w st := by
  obtain ⟨hfm, ht, hi, hR1⟩ := hf.head hm hh
  have hro := hf.round
  unfold aleave at h
  split at h
  · rename_i hrn
    rw [hrn] at hro
    have hrf : fr.roundOf = none := by
      cases hq : fr.roundOf with
      | none => rfl
      | some _ => rw [hq] at hro; exact hro.elim
    have hst : StRel B W G ρ ⟨{ f with mode := .returning }, callers, H⟩ { fr with mode := .returning } cs w :=
      ⟨hR, R1, R2, { hf with mode := rfl, todo := .returning ht hR1 }, hcs, hd, hres⟩
    split at h
    · cases h
      rcases hj with ⟨_, hj⟩ | ⟨hj, _⟩ | ⟨_, _, hj, _⟩ | ⟨_, _, hj, _⟩ <;> try cases hj
      refine ⟨{ fr with mode := .returning }, cs, w, ρ, .one (step_lone_go ?_), hst, Ren.le_refl _⟩
      simp [stepG, stepG.exec, hfm, hj, hrf]
    · cases h
      rcases hj with ⟨hj, _⟩ | ⟨_, k, hj⟩ | ⟨_, _, hj, _⟩ | ⟨_, _, hj, _⟩ <;> try cases hj
      refine ⟨{ fr with mode := .returning }, cs, w, ρ, .one (step_lone_go ?_), hst, Ren.le_refl _⟩
      simp [stepG, stepG.exec, hfm, hj, hrf]
    · cases h
  · rename_i l hrn
    rw [hrn] at hro
    obtain ⟨l', hrf⟩ : ∃ l', fr.roundOf = some l' := by
      cases hq : fr.roundOf with
      | none => rw [hq] at hro; exact hro.elim
      | some x => exact ⟨x, rfl⟩
    rw [hrf] at hro
    obtain ⟨lo, hl, rfl⟩ := hro
    split at h
    rotate_left
    · cases h
    rename_i st0 pend fn nt tm ps a b ds hg
    obtain ⟨ld, tmps, o1, o2, o3⟩ := hR.loopAt hl hg
    have hnc : ∀ c e f, (Obj.loop { state := st0, pending := pend, fn, tmps, params := ps, assign := a, body := b, defers := ld.b }) ≠ .cells c e f := fun _ _ _ h => by cases h
    have hend : ∀ j, (Instr.endRound lo.b j).run P w = .ok (.bool j.isNone) (World.setBlk w lo.b (.loop { state := if j.isNone then .ready else .done, pending := j, fn, tmps, params := ps, assign := a, body := b, defers := ld.b })) := by
      intro j
      simp only [Instr.endRound, Instr.getLoop, Sem.run_bind, run_getObj o3 hnc, Result.andThen_ok, Sem.run_pure, run_setObj o3 hnc]
    have hfin : ∀ (j : Option Code), jump = j → (match j with
        | none => areturn f callers (.bool true) (H.set l (.loop .ready none fn nt tm ps a b ds))
        | some c => areturn f callers (.bool false) (H.set l (.loop .done (some c) fn nt tm ps a b ds))) = some st →
        ∃ fr' cs', doReturn P true fr (cs ++ base) none (.bool j.isNone) (World.setBlk w lo.b (.loop { state := if j.isNone then .ready else .done, pending := j, fn, tmps, params := ps, assign := a, body := b, defers := ld.b })) =
            .go { frame := fr', callers := cs' ++ base, status := .running, dying := none } (World.setBlk w lo.b (.loop { state := if j.isNone then .ready else .done, pending := j, fn, tmps, params := ps, assign := a, body := b, defers := ld.b })) ∧
          StRel B W G ρ st fr' cs' (World.setBlk w lo.b (.loop { state := if j.isNone then .ready else .done, pending := j, fn, tmps, params := ps, assign := a, body := b, defers := ld.b })) := by
      intro j hj' hx
      cases j with
      | none =>
        exact return_run hf.kind hcs (hR.setLoop hl hg o1 o2 .ready none) (fun r hr => hres r (.inr hr)) (by simp [conc]) hx
      | some c =>
        exact return_run hf.kind hcs (hR.setLoop hl hg o1 o2 .done (some c)) (fun r hr => hres r (.inr hr)) (by simp [conc]) hx
    obtain ⟨fr', cs', g1, g2⟩ := hfin jump rfl h
    refine ⟨fr', cs', _, ρ, .one (step_lone_go ?_), g2, Ren.le_refl _⟩
    rcases hj with ⟨rfl, hj⟩ | ⟨rfl, k, hj⟩ | ⟨id, k, rfl, hj, hx⟩ | ⟨id, k, rfl, hj, hx⟩
    · simp [stepG, stepG.exec, hfm, hj, hrf, Sem.runT_eq, hend]
      simpa using congrArg GStep.bare g1
    · simp [stepG, stepG.exec, hfm, hj, hrf, Sem.runT_eq, hend]
      simpa using congrArg GStep.bare g1
    · simp [stepG, stepG.exec, hfm, hj, hrf, hx, Sem.runT_eq, hend]
      simpa using congrArg GStep.bare g1
    · simp [stepG, stepG.exec, hfm, hj, hrf, hx, Sem.runT_eq, hend]
      simpa using congrArg GStep.bare g1
end Go.Am
