/- An abstract machine for the model's code: it runs the code on abstract values; what it answers, the model answers. No condition of its own. -/
import Derived.Test.YtlmjlfngcjhbaaaGreatDoorAm1
import Derived.Laws.BytesString
import Derived.Laws.StructEq
import Derived.Lib.Bytealg
set_option linter.unusedSimpArgs false
set_option linter.unusedVariables false
set_option linter.unnecessarySimpa false
/- An abstract machine for the model's code, part 8: literals, look-ups, conversions, lengths; all that leaves memory as it is, in one. -/
namespace Go.Am
open Go Go.RowKit

variable {E : Env} {P : Program} {B : Nat} {W : World} {G : Nat} {ρ : Ren} {H : AHeap} {w : World}

/-- A literal's parts, laid over zero cells. -/
def afill (place : Nat → Option (Nat × Nat)) : List AV → List (Nat × AV) → Option (List AV)
  | cells, [] => some cells
  | cells, (i, v) :: rest => match place i with
    | none => none
    | some (off, size) => bif Nat.beq v.cells.length size && Nat.ble (off + v.cells.length) cells.length then afill place (splice cells off v.cells) rest else none

theorem fold_wr (off : Nat) : ∀ (vs : List Value) (k : Nat) (c : Array Value), (vs.zipIdx k).foldl (fun cs (x : Value × Nat) => cs.setIfInBounds (off + x.2) x.1) c = wr c (off + k) vs
  | [], k, c => rfl
  | v :: vs, k, c => by
    simp only [List.zipIdx_cons, List.foldl_cons]
    rw [fold_wr off vs (k + 1)]
    show _ = wr (c.setIfInBounds (off + k) v) (off + k + 1) vs
    rw [show off + (k + 1) = off + k + 1 by omega]

theorem wr_splice (c : List Value) (k : Nat) (vs : List Value) (h : k + vs.length ≤ c.length) : wr c.toArray k vs = (splice c k vs).toArray := by
  apply Array.ext_getElem?
  intro m
  rw [wr_get _ _ _ _ (by simpa using h)]
  simp only [List.getElem?_toArray]
  rw [splice_get _ _ _ h]

theorem concL_splice {a b : List AV} {x y : List Value} (ha : concL ρ a = some x) (hb : concL ρ b = some y) (k : Nat) : concL ρ (splice a k b) = some (splice x k y) := by
  unfold splice
  rw [concL_length hb]
  exact concL_append (concL_append (concL_take ha k) hb) (concL_drop ha _)

theorem afill_run {place : Nat → Option (Nat × Nat)} : ∀ {parts : List (Nat × AV)} {cells out : List AV}, afill place cells parts = some out → ∀ {c' : List Value}, concL ρ cells = some c' →
    ∀ {parts' : List (Nat × Value)}, parts'.length = parts.length → (∀ (j i : Nat) (v : AV), parts[j]? = some (i, v) → ∃ v', parts'[j]? = some (i, v') ∧ conc ρ v = some v') →
    ∃ out', Instr.fill place c'.toArray parts' = some out' ∧ concL ρ out = some out'.toList
  | [], cells, out, h, c', hc, parts', hl, _ => by
    simp at hl; subst hl
    simp [afill] at h; subst h
    exact ⟨c'.toArray, rfl, by simpa using hc⟩
  | (i, v) :: rest, cells, out, h, c', hc, [], hl, _ => by simp at hl
  | (i, v) :: rest, cells, out, h, c', hc, (i', u) :: parts', hl, hp => by
    obtain ⟨v', e1, e2⟩ := hp 0 i v rfl
    simp at e1
    obtain ⟨rfl, rfl⟩ := e1
    simp only [afill] at h
    split at h
    · cases h
    rename_i off size hpl
    rcases bif_some h with ⟨c, h4⟩ | ⟨_, h4⟩
    rotate_left
    · cases h4
    simp only [Bool.and_eq_true] at c
    obtain ⟨c1, c2⟩ := c
    have c1 := Nat.eq_of_beq_eq_true c1
    have c2 := ble_le c2
    have hcells := conc_cells e2
    have hlen := concL_length hcells
    have hlc := concL_length hc
    simp only [Array.length_toList] at hlen
    have hfit : off + u.cells.toList.length ≤ c'.length := by simp; omega
    obtain ⟨out', f1, f2⟩ := afill_run h4 (concL_splice hc hcells off) (parts' := parts') (by simpa using hl) (fun j i v e => by simpa using hp (j + 1) i v (by simpa using e))
    refine ⟨out', ?_, f2⟩
    simp only [Instr.fill, hpl]
    rw [if_neg (by simp; omega)]
    have : u.cells.zipIdx.foldl (fun cs (x : Value × Nat) => cs.setIfInBounds (off + x.2) x.1) c'.toArray = (splice c' off u.cells.toList).toArray := by
      rw [← Array.foldl_toList, Array.toList_zipIdx, fold_wr off _ 0, Nat.add_zero, wr_splice _ _ _ hfit]
    rw [← f1]
    congr 1

/-- The places of a struct's fields. -/
def aplaces (E : Env) : List Field → Option (List (Nat × Nat))
  | [] => some []
  | f :: fs => match E.ty.get f.type, aplaces E fs with
    | some y, some l => some ((f.offset, y.size) :: l)
    | _, _ => none

theorem aplaces_run (hE : E.Ok P) (w : World) : ∀ {fs : List Field} {l : List (Nat × Nat)}, aplaces E fs = some l →
    (fs.mapM (fun f => do pure (f.offset, ← sizeOf f.type) : Field → Sem (Nat × Nat))).run P w = .ok l w
  | [], l, h => by simp [aplaces] at h; subst h; rfl
  | f :: fs, l, h => by
    simp only [aplaces] at h
    split at h
    · rename_i y l' hy hl
      cases h
      rw [List.mapM_cons]
      simp only [Sem.run_bind, hE.size hy w, Result.andThen_ok, Sem.run_pure, aplaces_run hE w hl]
    · cases h

/-- The parts of a literal. -/
def aparts (ev : Operand → Option AV) : List (Nat × Operand) → Option (List (Nat × AV))
  | [] => some []
  | (i, x) :: rest => match ev x, aparts ev rest with
    | some v, some l => some ((i, v) :: l)
    | _, _ => none

theorem aparts_conc {ev : Operand → Option AV} {cev : Operand → Value} (hv : Evr ρ ev cev) : ∀ {ps : List (Nat × Operand)} {l : List (Nat × AV)}, aparts ev ps = some l →
    l.length = ps.length ∧ ∀ (j i : Nat) (v : AV), l[j]? = some (i, v) → ∃ v', (ps.map fun (q : Nat × Operand) => (q.1, cev q.2))[j]? = some (i, v') ∧ conc ρ v = some v'
  | [], l, h => by simp [aparts] at h; subst h; exact ⟨rfl, fun j i v e => by simp at e⟩
  | (k, x) :: rest, l, h => by
    simp only [aparts] at h
    split at h
    · rename_i v0 l' h1 h2
      cases h
      obtain ⟨a, b⟩ := aparts_conc hv h2
      refine ⟨by simp [a], fun j i v e => ?_⟩
      cases j with
      | zero => simp at e; obtain ⟨rfl, rfl⟩ := e; exact ⟨cev x, by simp, hv x _ h1⟩
      | succ j => simpa using b j i v (by simpa using e)
    · cases h

/-- A literal of a struct or an array. -/
def abuild (E : Env) (ev : Operand → Option AV) (t : TypeId) (parts : List (Nat × Operand)) : Option AV :=
  match E.ty.get t, aparts ev parts with
  | some x, some ps => match x.desc with
    | .struct fields => match aplaces E fields.toList with
      | some pl => (afill (fun i => pl[i]?) x.zero.cells ps).map .agg
      | none => none
    | .array _ e => match E.ty.get e with
      | some y => (afill (fun i => some (i * y.size, y.size)) x.zero.cells ps).map .agg
      | none => none
    | _ => none
  | _, _ => none

theorem abuild_run (hE : E.Ok P) {ev : Operand → Option AV} {cev : Operand → Value} (hv : Evr ρ ev cev) {t : TypeId} {parts : Array (Nat × Operand)} {v : AV} (h : abuild E ev t parts.toList = some v) (w : World) :
    ∃ v', conc ρ v = some v' ∧ (Instr.build t (parts.map fun (q : Nat × Operand) => (q.1, cev q.2))).run P w = .ok v' w := by
  unfold abuild at h
  split at h
  rotate_left
  · cases h
  rename_i x ps ht hps
  have hu := (hE.ty t x ht).1
  obtain ⟨zv, hz, hzc⟩ := hE.zero ht
  obtain ⟨p1, p2⟩ := aparts_conc hv hps
  have hmap : (parts.map fun (q : Nat × Operand) => (q.1, cev q.2)).toList = parts.toList.map fun (q : Nat × Operand) => (q.1, cev q.2) := by simp
  split at h
  · rename_i fields hd
    rw [hd] at hu
    split at h
    rotate_left
    · cases h
    rename_i pl hpl
    cases hf : afill (fun i => pl[i]?) x.zero.cells ps with
    | none => rw [hf] at h; cases h
    | some out =>
      rw [hf] at h; cases h
      obtain ⟨out', f1, f2⟩ := afill_run hf (conc_cells (hzc ρ)) (parts' := parts.toList.map fun (q : Nat × Operand) => (q.1, cev q.2)) (by simp [p1]) p2
      refine ⟨.agg out', by simp [conc, f2], ?_⟩
      have hpl' := aplaces_run hE w hpl
      simp only [Instr.build, Sem.run_bind, hz w, Result.andThen_ok, Sem.run_pure, run_underlying hu]
      rw [Array.mapM_eq_mapM_toList]
      simp only [Sem.run_map, hpl', Result.andThen_ok]
      rw [hmap]
      have e : (fun (i : Nat) => (pl.toArray)[i]?) = fun i => pl[i]? := by funext i; simp
      rw [e]
      simp only [Array.toArray_toList] at f1
      rw [f1]
      rfl
  · rename_i n e hd
    rw [hd] at hu
    split at h
    rotate_left
    · cases h
    rename_i y hy
    cases hf : afill (fun i => some (i * y.size, y.size)) x.zero.cells ps with
    | none => rw [hf] at h; cases h
    | some out =>
      rw [hf] at h; cases h
      obtain ⟨out', f1, f2⟩ := afill_run hf (conc_cells (hzc ρ)) (parts' := parts.toList.map fun (q : Nat × Operand) => (q.1, cev q.2)) (by simp [p1]) p2
      refine ⟨.agg out', by simp [conc, f2], ?_⟩
      simp only [Instr.build, Sem.run_bind, hz w, Result.andThen_ok, Sem.run_pure, run_underlying hu, hE.size hy w]
      rw [hmap]
      simp only [Array.toArray_toList] at f1
      rw [f1]
      rfl
  · cases h

/-- Keys: whole numbers, strings, bools. -/
def akeyEq (d : TypeDesc) : AV → AV → Option Bool
  | .int k a, .int k' b => match d with
    | .int _ => bif decide (k = k') then some (a == b) else none
    | _ => none
  | .str a, .str b => match d with
    | .string => some (a == b)
    | _ => none
  | .bool a, .bool b => match d with
    | .bool => some (a == b)
    | _ => none
  | _, _ => none

theorem checkKey_plain {n : Bool} {m : Nat} {t : TypeId} {v : Value} {d : TypeDesc} (hu : P.underlying t = some d) (hd : (∃ k, d = .int k) ∨ d = .string ∨ d = .bool) (w : World) : (Instr.checkKey n (m + 1) t v).run P w = .ok () w := by
  rcases hd with ⟨k, rfl⟩ | rfl | rfl <;> simp [Instr.checkKey, run_underlying hu]

theorem akeyEq_run {d : TypeDesc} {a b : AV} {r : Bool} (h : akeyEq d a b = some r) {a' b' : Value} (ha : conc ρ a = some a') (hb : conc ρ b = some b') :
    Instr.sameNow d a' b' = some r ∧ (∀ n t w, P.underlying t = some d → (Instr.checkKey n 10000 t a').run P w = .ok () w) := by
  unfold akeyEq at h
  split at h
  · split at h
    · rename_i k x k' y kd
      rcases bif_some h with ⟨c, h2⟩ | ⟨_, h2⟩
      · cases h2; cases conc_int ha; cases conc_int hb
        simp only [decide_eq_true_eq] at c; subst c
        exact ⟨by simp [Instr.sameNow], fun n t w hu => checkKey_plain (m := 9999) hu (.inl ⟨_, rfl⟩) w⟩
      · cases h2
    · cases h
  · split at h
    · cases h; cases conc_str ha; cases conc_str hb
      exact ⟨by simp [Instr.sameNow, beq_toListBytes], fun n t w hu => checkKey_plain (m := 9999) hu (.inr (.inl rfl)) w⟩
    · cases h
  · split at h
    · cases h; cases conc_bool ha; cases conc_bool hb
      exact ⟨by simp [Instr.sameNow], fun n t w hu => checkKey_plain (m := 9999) hu (.inr (.inr rfl)) w⟩
    · cases h
  · cases h

/-- Is it a key of that kind? -/
def akeyOk (d : TypeDesc) (k : AV) : Bool := (akeyEq d k k).isSome

def afind (d : TypeDesc) (k : AV) : List AEnt → Nat → Option (Option (Nat × AEnt))
  | [], _ => some none
  | e :: es, i => match akeyEq d k e.key with
    | some true => some (some (i, e))
    | some false => afind d k es (i + 1)
    | none => none

theorem afind_run {d : TypeDesc} {k : AV} {k' : Value} (hk : conc ρ k = some k') : ∀ {es : List AEnt} {es' : List MapEntry} (i : Nat) {r : Option (Nat × AEnt)}, afind d k es i = some r → es'.length = es.length →
    (∀ (j : Nat) (e : AEnt), es[j]? = some e → ∃ a b, conc ρ e.key = some a ∧ conc ρ e.val = some b ∧ es'[j]? = some ⟨a, b, e.born⟩) →
    match r with
    | none => Instr.findNow d k' es' i = some none
    | some (j, e) => ∃ b, conc ρ e.val = some b ∧ Instr.findNow d k' es' i = some (some (j, b)) ∧ i ≤ j ∧ es[j - i]? = some e ∧ akeyEq d k e.key = some true
  | [], [], i, r, h, _, _ => by simp [afind] at h; subst h; rfl
  | [], e :: es', i, r, _, hl, _ => by simp at hl
  | e :: es, [], i, r, _, hl, _ => by simp at hl
  | e :: es, e' :: es', i, r, h, hl, hes => by
    obtain ⟨a, b, h1, h2, h3⟩ := hes 0 e rfl
    simp at h3; subst h3
    simp only [afind] at h
    split at h
    · rename_i hq
      cases h
      exact ⟨b, h2, by simp [Instr.findNow, (akeyEq_run (P := default) hq hk h1).1], Nat.le_refl _, by simp, hq⟩
    · rename_i hq
      have ih := afind_run (es := es) (es' := es') hk (i + 1) h (by simpa using hl) (fun j e he => by simpa using hes (j + 1) e (by simpa using he))
      cases r with
      | none => simpa [Instr.findNow, (akeyEq_run (P := default) hq hk h1).1] using ih
      | some q =>
        obtain ⟨j, e0⟩ := q
        obtain ⟨b0, q1, q2, q3, q4, q5⟩ := ih
        refine ⟨b0, q1, by simpa [Instr.findNow, (akeyEq_run (P := default) hq hk h1).1] using q2, by omega, ?_, q5⟩
        rw [show j - i = (j - (i + 1)) + 1 by omega]
        simpa using q4
    · cases h

/-- A map's entries. -/
def aentries (H : AHeap) : AV → Option (List AEnt × Nat)
  | .nilmap => some ([], 0)
  | .map i => match H.get i with
    | .map es clock => some (es, clock)
    | _ => none
  | _ => none

/-- A look-up. -/
def alookup (E : Env) (H : AHeap) (t : TypeId) (m k : AV) (ok : Bool) : Option AV :=
  match E.ty.get t, aentries H m with
  | some i, some (es, _) => match i.desc with
    | .map kt et => match E.ty.get kt, E.ty.get et with
      | some ki, some ei => match afind ki.desc k es 0 with
        | some r => bif akeyOk ki.desc k then
            some (match r with
              | some (_, e) => bif ok then .tuple [e.val, .bool true] else e.val
              | none => bif ok then .tuple [ei.zero, .bool false] else ei.zero)
          else none
        | none => none
      | _, _ => none
    | _ => none
  | _, _ => none

theorem conc_pair {a : AV} {a' : Value} (h : conc ρ a = some a') (b : Bool) : conc ρ (.tuple [a, .bool b]) = some (.tuple #[a', .bool b]) := by
  simp [conc, concL, h]

theorem findKey_run {kt : TypeId} {k' : Value} {es' : List MapEntry} {r : Option (Nat × Value)} {d : TypeDesc} (hu : P.underlying kt = some d) (h : Instr.findNow d k' es' 0 = some r) (w : World) : (Instr.findKey kt k' es').run P w = .ok r w := by
  simp [Instr.findKey, run_underlying hu, h]

theorem alookup_run (hE : E.Ok P) (hR : Rel B W G ρ H w) {t : TypeId} {m k v : AV} {ok : Bool} (h : alookup E H t m k ok = some v) {m' k' : Value} (hm : conc ρ m = some m') (hk : conc ρ k = some k') :
    ∃ v', conc ρ v = some v' ∧ (Instr.lookup t m' k' ok).run P w = .ok v' w := by
  unfold alookup at h
  split at h
  rotate_left
  · cases h
  rename_i i es clock ht hes
  have hu := (hE.ty t i ht).1
  split at h
  rotate_left
  · cases h
  rename_i kt et hd
  rw [hd] at hu
  split at h
  rotate_left
  · cases h
  rename_i ki ei hki hei
  have huk := (hE.ty kt ki hki).1
  obtain ⟨zv, hz, hzc⟩ := hE.zero hei
  split at h
  rotate_left
  · cases h
  rename_i r hr
  rcases bif_some h with ⟨c, h2⟩ | ⟨_, h2⟩
  rotate_left
  · cases h2
  clear h
  have hck : ∀ n w, (Instr.checkKey n 10000 kt k').run P w = .ok () w := by
    unfold akeyOk at c
    cases hq : akeyEq ki.desc k k with
    | none => rw [hq] at c; cases c
    | some b => exact fun n w => (akeyEq_run (P := P) hq hk hk).2 n kt w huk
  have hent : ∃ es' : Array MapEntry, es'.toList.length = es.length ∧ (∀ (j : Nat) (e : AEnt), es[j]? = some e → ∃ a b, conc ρ e.key = some a ∧ conc ρ e.val = some b ∧ es'.toList[j]? = some ⟨a, b, e.born⟩) ∧
      ((m' = .map none ∧ es' = #[]) ∨ ∃ b cl, m' = .map (some b) ∧ w.heap[b]? = some (.map es' cl)) := by
    unfold aentries at hes
    split at hes
    · cases hes; cases conc_nilmap hm
      exact ⟨#[], rfl, fun j e he => by simp at he, .inl ⟨rfl, rfl⟩⟩
    · rename_i id
      cases hg : H.get id with
      | map es0 clock0 =>
        rw [hg] at hes
        cases hes
        obtain ⟨l, hl, rfl⟩ := conc_map hm
        have ho := hR.obj id l hl
        rw [hg] at ho
        obtain ⟨es', o1, o2, o3⟩ := ho
        exact ⟨es', by simpa using o2, fun j e he => by simpa using o3 j e he, .inr ⟨_, _, rfl, o1⟩⟩
      | _ => rw [hg] at hes; cases hes
    · cases hes
  obtain ⟨es', e1, e2, e3⟩ := hent
  have hf := afind_run (k' := k') hk 0 hr e1 e2
  have hgo : ∀ (r' : Option (Nat × Value)), Instr.findNow ki.desc k' es'.toList 0 = some r' → (Instr.lookup t m' k' ok).run P w = .ok (match r' with | some (_, v) => (if ok then .tuple #[v, .bool true] else v) | none => (if ok then .tuple #[zv, .bool false] else zv)) w := by
    intro r' hr'
    have hfk := findKey_run (P := P) huk hr' w
    rcases e3 with ⟨rfl, rfl⟩ | ⟨b, cl, rfl, ho⟩
    · simp only at hfk
      cases r' with
      | none => cases ok <;> simp [Instr.lookup, run_underlying hu, hck, hfk, hz]
      | some q => cases ok <;> simp [Instr.lookup, run_underlying hu, hck, hfk]
    · cases r' with
      | none => cases ok <;> simp [Instr.lookup, run_underlying hu, getObj, Sem.run, ho, hck, hfk, hz]
      | some q => cases ok <;> simp [Instr.lookup, run_underlying hu, getObj, Sem.run, ho, hck, hfk]
  cases r with
  | none =>
    have hf : Instr.findNow ki.desc k' es'.toList 0 = some none := hf
    simp only [Option.some.injEq] at h2
    cases ok with
    | true => simp only [cond_true] at h2; subst h2; exact ⟨_, conc_pair (hzc ρ) false, hgo _ hf⟩
    | false => simp only [cond_false] at h2; subst h2; exact ⟨_, hzc ρ, hgo _ hf⟩
  | some q =>
    obtain ⟨j, e⟩ := q
    obtain ⟨b, q1, q2, _⟩ := hf
    simp only [Option.some.injEq] at h2
    cases ok with
    | true => simp only [cond_true] at h2; subst h2; exact ⟨_, conc_pair q1 true, hgo _ q2⟩
    | false => simp only [cond_false] at h2; subst h2; exact ⟨_, q1, hgo _ q2⟩

end Go.Am
/- An abstract machine for the model's code, part 9: all that leaves memory as it is, in one function. -/
namespace Go.Am
open Go Go.RowKit

variable {E : Env} {P : Program} {B : Nat} {W : World} {G : Nat} {ρ : Ren} {H : AHeap} {w : World}

/-- Bytes out of cells. -/
def abytes : List AV → Option (List UInt8)
  | [] => some []
  | .int .u8 n :: vs => match abytes vs with
    | some l => some (UInt8.ofNat n.toNat :: l)
    | none => none
  | _ :: _ => none

theorem abytes_conc : ∀ {cs : List AV} {l : List UInt8}, abytes cs = some l → ∀ {vs : List Value}, concL ρ cs = some vs → ∃ ns : List Int, vs = ns.map (Value.int .u8) ∧ l = ns.map fun n => UInt8.ofNat n.toNat
  | [], l, h, vs, hc => by simp [abytes] at h; simp [concL] at hc; subst h hc; exact ⟨[], rfl, rfl⟩
  | x :: cs, l, h, vs, hc => by
    obtain ⟨a, b, rfl, ha, hb⟩ := concL_cons.1 hc
    unfold abytes at h
    split at h
    · rename_i heq; cases heq
    · rename_i n vs' heq
      cases heq
      split at h
      · rename_i l' hl
        cases h
        cases conc_int ha
        obtain ⟨ns, rfl, rfl⟩ := abytes_conc hl hb
        exact ⟨n :: ns, rfl, rfl⟩
      · cases h
    · cases h

theorem foldl_push (ns : List Int) : ∀ s : List UInt8, ns.foldl (fun (r : ByteArray) (n : Int) => r.push (UInt8.ofNat n.toNat)) ⟨s.toArray⟩ = ⟨(s ++ ns.map fun n => UInt8.ofNat n.toNat).toArray⟩ := by
  induction ns with
  | nil => intro s; simp
  | cons n ns ih =>
    intro s
    simp only [List.foldl_cons, List.map_cons]
    have : (ByteArray.push ⟨s.toArray⟩ (UInt8.ofNat n.toNat)) = ⟨(s ++ [UInt8.ofNat n.toNat]).toArray⟩ := by
      simp [ByteArray.push]
    rw [this, ih]
    simp

/-- Conversions that make no memory. -/
def aconv (E : Env) (H : AHeap) (src dst : TypeId) (x : AV) : Option AV :=
  match E.ty.get src, E.ty.get dst with
  | some si, some di => match di.desc, x with
    | .int k, .int _ n => some (.int k (k.wrap n))
    | .string, .str s => some (.str s)
    | .string, .nilslice => match si.desc with
      | .slice e => match E.ty.get e with
        | some ei => match ei.desc with
          | .int .u8 => some (.str [])
          | _ => none
        | none => none
      | _ => none
    | .string, .slice id o len _ => match si.desc with
      | .slice e => match E.ty.get e, H.get id with
        | some ei, .row cs _ _ _ _ _ _ _ _ => match ei.desc with
          | .int .u8 => bif Nat.ble (o + len) cs.length then (abytes ((cs.drop o).take len)).map .str else none
          | _ => none
        | _, _ => none
      | _ => none
    | .unsafePointer, .nilptr => match si.desc with
      | .pointer _ => some .nilptr
      | _ => none
    | .unsafePointer, .ptr id o => match si.desc with
      | .pointer t => match E.ty.get t, H.get id with
        | some ti, .row cs _ _ _ _ _ _ _ _ => bif Nat.beq ti.size 0 then none else bif Nat.blt o cs.length then some (.ptr id o) else none
        | _, _ => none
      | _ => none
    | .pointer _, .nilptr => match si.desc with
      | .unsafePointer => some .nilptr
      | _ => none
    | .pointer u, .ptr id o => match si.desc with
      | .unsafePointer => match E.ty.get u, H.get id with
        | some ui, .row cs el _ _ false _ _ _ _ => bif Nat.beq ui.size 0 then none else bif E.lies.contains (el, cs.length, o, u) then some (.ptr id o) else none
        | _, _ => none
      | _ => none
    | _, _ => none
  | _, _ => none

theorem run_seenAt {c : Array Value} {el : Nat} {fr : Nat × Nat} {b o : Nat} (h : w.heap[b]? = some (.cells c el fr)) : (Conv.seenAt ⟨b, o, none⟩).run P w = .ok ⟨b, o, none⟩ w := by
  simp [Conv.seenAt, viewAt, shape, Sem.run, World.shape?, h]

theorem aconv_run (hE : E.Ok P) (hR : Rel B W G ρ H w) {src dst : TypeId} {x v : AV} (h : aconv E H src dst x = some v) {x' : Value} (hx : conc ρ x = some x') :
    ∃ v', conc ρ v = some v' ∧ (convert src dst x').run P w = .ok v' w := by
  unfold aconv at h
  split at h
  rotate_left
  · cases h
  rename_i si di hs hd
  have hus := (hE.ty src si hs).1
  have hud := (hE.ty dst di hd).1
  split at h
  · rename_i k q n heq
    cases h; cases conc_int hx
    rw [heq] at hud
    exact ⟨_, rfl, by simp [convert, run_underlying hus, run_underlying hud, Conv.intToInt]⟩
  · rename_i s heq
    cases h; cases conc_str hx
    rw [heq] at hud
    refine ⟨_, rfl, ?_⟩
    simp only [convert, Sem.run_bind, run_underlying hus, Result.andThen_ok, run_underlying hud]
    cases si.desc <;> rfl
  · rename_i heq
    rw [heq] at hud
    split at h
    rotate_left
    · cases h
    rename_i e hsd
    rw [hsd] at hus
    split at h
    rotate_left
    · cases h
    rename_i ei he
    have hue := (hE.ty e ei he).1
    split at h
    rotate_left
    · cases h
    rename_i hed
    rw [hed] at hue
    cases h; cases conc_nilslice hx
    exact ⟨_, rfl, by simp [convert, run_underlying hus, run_underlying hud, run_underlying hue, Conv.bytesToString]; rfl⟩
  · rename_i id o len cp heq
    rw [heq] at hud
    split at h
    rotate_left
    · cases h
    rename_i e hsd
    rw [hsd] at hus
    split at h
    rotate_left
    · cases h
    rename_i ei cs el sz fz gr mk own ro st he hr
    have hue := (hE.ty e ei he).1
    split at h
    rotate_left
    · cases h
    rename_i hed
    rw [hed] at hue
    rcases bif_some h with ⟨c, h2⟩ | ⟨_, h2⟩
    rotate_left
    · cases h2
    cases hb : abytes ((cs.drop o).take len) with
    | none => rw [hb] at h2; cases h2
    | some s =>
      rw [hb] at h2; cases h2
      obtain ⟨l, hl, rfl⟩ := conc_slice hx
      obtain ⟨vs', a, _, _, d⟩ := hR.loads (P := P) hl hr o len (ble_le c)
      obtain ⟨ns, rfl, rfl⟩ := abytes_conc hb a
      refine ⟨_, rfl, ?_⟩
      simp only [convert, Sem.run_bind, run_underlying hus, Result.andThen_ok, run_underlying hud, run_underlying hue]
      rw [run_bytesToString w _ len _ ns d]
      have := foldl_push ns []
      simp only [List.nil_append] at this
      rw [← this]
      rfl
  · rename_i heq
    rw [heq] at hud
    split at h
    rotate_left
    · cases h
    rename_i t hsd
    rw [hsd] at hus
    cases h; cases conc_nilptr hx
    exact ⟨_, rfl, by simp [convert, run_underlying hus, run_underlying hud, Conv.unsafePointer]⟩
  · rename_i id o heq
    rw [heq] at hud
    split at h
    rotate_left
    · cases h
    rename_i t hsd
    rw [hsd] at hus
    split at h
    rotate_left
    · cases h
    rename_i ti cs el sz fz gr mk own ro st he hr
    rcases bif_some h with ⟨_, h2⟩ | ⟨c1, h2⟩
    · cases h2
    rcases bif_some h2 with ⟨c2, h3⟩ | ⟨_, h3⟩
    rotate_left
    · cases h3
    cases h3
    have c2 := blt_lt c2
    have hne : ti.size ≠ 0 := fun h0 => by rw [h0] at c1; cases c1
    obtain ⟨l, hl, rfl⟩ := conc_ptr hx
    have ho := hR.obj id l hl
    rw [hr] at ho
    obtain ⟨c, fr, k1, k2, _⟩ := ho
    refine ⟨_, by simp only [conc, hl]; rfl, ?_⟩
    have hcin : (cellsIn l.b).run P w = .ok (some c.size) w := by simp [cellsIn, shape, Sem.run, World.shape?, k1]
    simp only [convert, Sem.run_bind, run_underlying hus, Result.andThen_ok, run_underlying hud, Conv.unsafePointer, run_seenAt k1, hcin, hE.size he w]
    simp [hne, show ¬ c.size ≤ l.base + o by omega]
  · rename_i u heq
    rw [heq] at hud
    split at h
    rotate_left
    · cases h
    rename_i hsd
    rw [hsd] at hus
    cases h; cases conc_nilptr hx
    exact ⟨_, rfl, by simp [convert, run_underlying hus, run_underlying hud, Conv.unsafePointer]⟩
  · rename_i u id o heq
    rw [heq] at hud
    split at h
    rotate_left
    · cases h
    rename_i hsd
    rw [hsd] at hus
    split at h
    rotate_left
    · cases h
    rename_i ui cs el sz fz mk own ro st he hr
    rcases bif_some h with ⟨_, h2⟩ | ⟨c1, h2⟩
    · cases h2
    rcases bif_some h2 with ⟨c2, h3⟩ | ⟨_, h3⟩
    rotate_left
    · cases h3
    cases h3
    have hne : ui.size ≠ 0 := fun h0 => by rw [h0] at c1; cases c1
    obtain ⟨l, hl, rfl⟩ := conc_ptr hx
    have ho := hR.obj id l hl
    rw [hr] at ho
    obtain ⟨c, fr, k1, k2, k3, k4, k5, k6, k7, _⟩ := ho
    obtain ⟨k7a, k7b⟩ := k7 rfl
    refine ⟨_, by simp only [conc, hl]; rfl, ?_⟩
    have hl' := hE.lies el cs.length o u (by simpa using c2)
    have hva : (variablesAt ⟨l.b, l.base + o, none⟩ u 1).run P w = .ok true w := by
      simp [variablesAt, shape, program, Sem.run, World.shape?, k1, k7a, k7b, hl']
    simp only [convert, Sem.run_bind, run_underlying hus, Result.andThen_ok, run_underlying hud, Conv.unsafePointer, run_seenAt k1, hva, hE.size he w]
    simp [hne]
  · cases h

/-- Lengths. -/
def alen (E : Env) (H : AHeap) (t : TypeId) (x : AV) : Option AV :=
  match E.ty.get t with
  | none => none
  | some i => match i.desc, x with
    | .string, .str s => some (.int .i64 s.length)
    | .array n _, _ => some (.int .i64 n)
    | .slice _, .nilslice => some (.int .i64 0)
    | .slice _, .slice _ _ n _ => some (.int .i64 n)
    | .slice _, .sl0 _ _ _ _ => some (.int .i64 0)
    | .map _ _, .nilmap => some (.int .i64 0)
    | .map _ _, .map id => match H.get id with
      | .map es _ => some (.int .i64 es.length)
      | _ => none
    | _, _ => none

theorem alen_run (hE : E.Ok P) (hR : Rel B W G ρ H w) {t ty : TypeId} {ts : Array TypeId} (hts : ts[0]? = some t) {x v : AV} (h : alen E H t x = some v) {x' : Value} (hx : conc ρ x = some x') :
    ∃ v', conc ρ v = some v' ∧ (Builtin.len_ ts ty #[x']).run P w = .ok v' w := by
  unfold alen at h
  split at h
  · cases h
  rename_i i ht
  have hu := (hE.ty t i ht).1
  have h0 : (#[x'] : Array Value)[0]? = some x' := rfl
  split at h
  · rename_i s heq; rw [heq] at hu
    cases h; cases conc_str hx
    refine ⟨_, rfl, ?_⟩
    simp only [Builtin.len_, hts, h0]
    simp only [Sem.run_bind, run_underlying hu, Result.andThen_ok, goInt, Sem.run_pure]
    rfl
  · rename_i n e heq; rw [heq] at hu
    cases h
    refine ⟨_, rfl, ?_⟩
    simp only [Builtin.len_, hts, h0]
    simp only [Sem.run_bind, run_underlying hu, Result.andThen_ok, goInt, Sem.run_pure]
  · rename_i e heq; rw [heq] at hu
    cases h; cases conc_nilslice hx
    exact ⟨_, rfl, by simp [Builtin.len_, hts, run_underlying hu, goInt]⟩
  · rename_i e id o n cp heq; rw [heq] at hu
    cases h; obtain ⟨l, hl, rfl⟩ := conc_slice hx
    exact ⟨_, rfl, by simp [Builtin.len_, hts, run_underlying hu, goInt]⟩
  · rename_i e i o1 o2 eo heq; rw [heq] at hu
    cases h; obtain ⟨l, hl, rfl⟩ := conc_sl0 hx
    exact ⟨_, rfl, by simp [Builtin.len_, hts, run_underlying hu, goInt]⟩
  · rename_i a b heq; rw [heq] at hu
    cases h; cases conc_nilmap hx
    exact ⟨_, rfl, by simp [Builtin.len_, hts, run_underlying hu, goInt]⟩
  · rename_i a b id heq; rw [heq] at hu
    obtain ⟨l, hl, rfl⟩ := conc_map hx
    split at h
    rotate_left
    · cases h
    rename_i es cl hg
    cases h
    have ho := hR.obj id l hl
    rw [hg] at ho
    obtain ⟨es', o1, o2, _⟩ := ho
    exact ⟨_, rfl, by simp [Builtin.len_, hts, run_underlying hu, goInt, getObj, Sem.run, o1, o2]⟩
  · cases h

/-- The greatest, the least of whole numbers. -/
def amm (mx : Bool) (k : IntKind) : Int → List AV → Option Int
  | a, [] => some a
  | a, .int _ b :: vs => amm mx k (bif mx then (if b > a then b else a) else (if b < a then b else a)) vs
  | _, _ :: _ => none

def aminmax (mx : Bool) : List AV → Option AV
  | .int k a :: vs => (amm mx k a vs).map (.int k)
  | _ => none

theorem amm_max {k : IntKind} : ∀ {vs : List AV} {a r : Int}, amm true k a vs = some r → ∀ {vs' : List Value}, concL ρ vs = some vs' → ∀ w, (vs'.foldlM Builtin.max2 (.int k a)).run P w = .ok (.int k r) w
  | [], a, r, h, vs', hc, w => by simp [amm] at h; simp [concL] at hc; subst h hc; rfl
  | .int k' b :: vs, a, r, h, vs', hc, w => by
    obtain ⟨x, y, rfl, hx, hy⟩ := concL_cons.1 hc
    cases conc_int hx
    simp only [amm, cond_true] at h
    simp only [List.foldlM_cons, Builtin.max2, Sem.run_bind, Sem.run_pure, Result.andThen_ok]
    exact amm_max h hy w
  | .bool _ :: _, _, _, h, _, _, _ | .str _ :: _, _, _, h, _, _, _ | .nilptr :: _, _, _, h, _, _, _ | .ptr _ _ :: _, _, _, h, _, _, _ | .nilslice :: _, _, _, h, _, _, _ | .slice _ _ _ _ :: _, _, _, h, _, _, _ | .sl0 _ _ _ _ :: _, _, _, h, _, _, _
  | .nilmap :: _, _, _, h, _, _, _ | .map _ :: _, _, _, h, _, _, _ | .func _ _ _ :: _, _, _, h, _, _, _ | .yield _ :: _, _, _, h, _, _, _ | .nilfunc :: _, _, _, h, _, _, _ | .iface _ _ :: _, _, _, h, _, _, _
  | .niliface :: _, _, _, h, _, _, _ | .agg _ :: _, _, _, h, _, _, _ | .tuple _ :: _, _, _, h, _, _, _ => by simp [amm] at h

theorem amm_min {k : IntKind} : ∀ {vs : List AV} {a r : Int}, amm false k a vs = some r → ∀ {vs' : List Value}, concL ρ vs = some vs' → ∀ w, (vs'.foldlM Builtin.min2 (.int k a)).run P w = .ok (.int k r) w
  | [], a, r, h, vs', hc, w => by simp [amm] at h; simp [concL] at hc; subst h hc; rfl
  | .int k' b :: vs, a, r, h, vs', hc, w => by
    obtain ⟨x, y, rfl, hx, hy⟩ := concL_cons.1 hc
    cases conc_int hx
    simp only [amm, cond_false] at h
    simp only [List.foldlM_cons, Builtin.min2, Sem.run_bind, Sem.run_pure, Result.andThen_ok]
    exact amm_min h hy w
  | .bool _ :: _, _, _, h, _, _, _ | .str _ :: _, _, _, h, _, _, _ | .nilptr :: _, _, _, h, _, _, _ | .ptr _ _ :: _, _, _, h, _, _, _ | .nilslice :: _, _, _, h, _, _, _ | .slice _ _ _ _ :: _, _, _, h, _, _, _ | .sl0 _ _ _ _ :: _, _, _, h, _, _, _
  | .nilmap :: _, _, _, h, _, _, _ | .map _ :: _, _, _, h, _, _, _ | .func _ _ _ :: _, _, _, h, _, _, _ | .yield _ :: _, _, _, h, _, _, _ | .nilfunc :: _, _, _, h, _, _, _ | .iface _ _ :: _, _, _, h, _, _, _
  | .niliface :: _, _, _, h, _, _, _ | .agg _ :: _, _, _, h, _, _, _ | .tuple _ :: _, _, _, h, _, _, _ => by simp [amm] at h

theorem aminmax_run {mx : Bool} {vs : List AV} {v : AV} (h : aminmax mx vs = some v) {vs' : List Value} (hc : concL ρ vs = some vs') (ts : Array TypeId) (t : TypeId) (w : World) :
    ∃ v', conc ρ v = some v' ∧ (bif mx then Builtin.max_ ts t vs'.toArray else Builtin.min_ ts t vs'.toArray).run P w = .ok v' w := by
  unfold aminmax at h
  split at h
  rotate_left
  · cases h
  rename_i k a vs
  cases hm : amm mx k a vs with
  | none => rw [hm] at h; cases h
  | some r =>
    rw [hm] at h; cases h
    obtain ⟨x, y, rfl, hx, hy⟩ := concL_cons.1 hc
    cases conc_int hx
    refine ⟨_, rfl, ?_⟩
    cases mx with
    | true => simp only [cond_true, Builtin.max_]; exact amm_max hm hy w
    | false => simp only [cond_false, Builtin.min_]; exact amm_min hm hy w

/-- An interface value asked for its type. -/
def aassert (E : Env) (x : AV) (t : TypeId) (ok : Bool) : Option AV :=
  match E.ty.get t with
  | none => none
  | some i => match i.desc with
    | .interface _ => none
    | _ => match x with
      | .iface d v => bif Nat.beq d t then some (bif ok then .tuple [v, .bool true] else v) else bif ok then some (.tuple [i.zero, .bool false]) else none
      | .niliface => bif ok then some (.tuple [i.zero, .bool false]) else none
      | _ => none

theorem aassert_run (hE : E.Ok P) {x v : AV} {xt t : TypeId} {ok : Bool} (h : aassert E x t ok = some v) {x' : Value} (hx : conc ρ x = some x') (w : World) :
    ∃ v', conc ρ v = some v' ∧ (Instr.typeAssert x' xt t ok).run P w = .ok v' w := by
  unfold aassert at h
  split at h
  · cases h
  rename_i i ht
  have hu := (hE.ty t i ht).1
  obtain ⟨zv, hz, hzc⟩ := hE.zero ht
  split at h
  · cases h
  rename_i hni
  split at h
  · rename_i d u
    obtain ⟨a, ha, rfl⟩ := conc_iface hx
    rcases bif_some h with ⟨c, h2⟩ | ⟨c, h2⟩
    · obtain rfl := Nat.eq_of_beq_eq_true c
      cases ok with
      | true =>
        cases h2
        refine ⟨_, conc_pair ha true, ?_⟩
        simp only [Instr.typeAssert, Sem.run_bind, run_underlying hu, Result.andThen_ok]
        revert hni; cases i.desc <;> simp
      | false =>
        cases h2
        refine ⟨_, ha, ?_⟩
        simp only [Instr.typeAssert, Sem.run_bind, run_underlying hu, Result.andThen_ok]
        revert hni; cases i.desc <;> simp
    · rcases bif_some h2 with ⟨c2, h3⟩ | ⟨_, h3⟩
      rotate_left
      · cases h3
      cases h3; subst c2
      have hne : d ≠ t := fun e => by subst e; rw [Nat.beq_refl] at c; cases c
      refine ⟨_, conc_pair (hzc ρ) false, ?_⟩
      simp only [Instr.typeAssert, Sem.run_bind, run_underlying hu, Result.andThen_ok]
      revert hni; cases i.desc <;> simp [hne, hz]
  · cases conc_niliface hx
    rcases bif_some h with ⟨c2, h3⟩ | ⟨_, h3⟩
    rotate_left
    · cases h3
    cases h3; subst c2
    refine ⟨_, conc_pair (hzc ρ) false, ?_⟩
    simp only [Instr.typeAssert, Sem.run_bind, run_underlying hu, Result.andThen_ok]
    revert hni; cases i.desc <;> simp [hz]
  · cases h

end Go.Am
/- An abstract machine for the model's code, part 10: what an operation that leaves memory as it is yields. -/
namespace Go.Am
open Go Go.RowKit

variable {E : Env} {P : Program} {B : Nat} {W : World} {G : Nat} {ρ : Ren} {H : AHeap} {w : World}

def evL (ev : Operand → Option AV) : List Operand → Option (List AV)
  | [] => some []
  | x :: xs => match ev x, evL ev xs with
    | some v, some l => some (v :: l)
    | _, _ => none

theorem evL_conc {ev : Operand → Option AV} {cev : Operand → Value} (hv : Evr ρ ev cev) : ∀ {xs : List Operand} {l : List AV}, evL ev xs = some l → concL ρ l = some (xs.map cev)
  | [], l, h => by simp [evL] at h; subst h; rfl
  | x :: xs, l, h => by
    simp only [evL] at h
    split at h
    · rename_i v l' h1 h2; cases h; exact concL_cons.2 ⟨_, _, rfl, hv x _ h1, evL_conc hv h2⟩
    · cases h

def evO (ev : Operand → Option AV) : Option Operand → Option (Option AV)
  | none => some none
  | some x => match ev x with
    | some v => some (some v)
    | none => none

theorem evO_conc {ev : Operand → Option AV} {cev : Operand → Value} (hv : Evr ρ ev cev) {x : Option Operand} {v : Option AV} (h : evO ev x = some v) : concO ρ v (x.map cev) := by
  cases x with
  | none => simp [evO] at h; subst h; trivial
  | some x =>
    simp only [evO] at h
    split at h
    · rename_i u hu; cases h; exact hv x _ hu
    · cases h

def nilOk : AV → Bool
  | .nilptr | .niliface | .nilfunc | .yield _ => false
  | .func (.method _) _ _ => false
  | _ => true

def aun (op : UnOp) : AV → Option AV
  | .bool b => match op with
    | .not => some (.bool (!b))
    | _ => none
  | .int k n => match op with
    | .neg => some (.int k (k.wrap (0 - n)))
    | _ => none
  | _ => none

/-- An interface value made. -/
def amkIface (E : Env) (t : TypeId) (v : AV) : Option AV := match E.ty.get t with
  | some i => match i.desc with
    | .interface _ => none
    | _ => some (.iface t v)
  | none => none

/-- The address of a slice's first element. -/
def asdata (H : AHeap) : AV → Option AV
  | .nilslice => some .nilptr
  | .slice i o _ (.known c) => bif Nat.beq c 0 then none else some (.ptr i o)
  | .slice i o len (.rest eo) => match H.get i with
    | .row cs _ sz _ true _ _ _ _ => bif Nat.beq o (eo * sz) && Nat.ble (o + len * sz) cs.length && Nat.blt 0 sz && Nat.blt 0 len then some (.ptr i o) else none
    | _ => none
  | _ => none

def abuiltinR (E : Env) (H : AHeap) (b : Builtin) (ts : Array TypeId) (vs : List AV) : Option AV :=
  match b, vs with
  | .len, [x] => match ts.toList with
    | t :: _ => alen E H t x
    | [] => none
  | .max, vs => aminmax true vs
  | .min, vs => aminmax false vs
  | .unsafeSliceData, [x] => asdata H x
  | _, _ => none

/-- What an operation that leaves memory as it is yields. -/
def aread (E : Env) (H : AHeap) (ev : Operand → Option AV) : Op → Option AV
  | .move x => ev x
  | .assign x => ev x
  | .pick c a b => match ev c with
    | some (.bool t) => bif t then ev a else ev b
    | _ => none
  | .nilCheck x => match ev x with
    | some v => bif nilOk v then some v else none
    | none => none
  | .build t parts => abuild E ev t parts.toList
  | .binOp op t x y _ => match ev x, ev y with
    | some a, some b => abin E op t (isK x || isK y) a b
    | _, _ => none
  | .unOp op _ x => match ev x with
    | some a => aun op a
    | none => none
  | .convert s d x => match ev x with
    | some a => aconv E H s d a
    | none => none
  | .makeInterface t x => match ev x with
    | some a => amkIface E t a
    | none => none
  | .makeFunc fn f c => match evL ev f.toList, evL ev c.toList with
    | some a, some b => some (.func fn a b)
    | _, _ => none
  | .slice t x lo hi mx => match ev x, evO ev lo, evO ev hi, evO ev mx with
    | some a, some l, some h, some m => asl E H t a l h m
    | _, _, _, _ => none
  | .fieldAddr t x f => match ev x with
    | some a => afieldAddr E t a f
    | none => none
  | .field t x f => match ev x with
    | some a => afield E t a f
    | none => none
  | .indexAddr t x i => match ev x, ev i with
    | some a, some b => aindexAddr E t a b
    | _, _ => none
  | .index t x i => match ev x, ev i with
    | some a, some b => aindex E t a b
    | _, _ => none
  | .lookup t x i ok => match ev x, ev i with
    | some a, some b => alookup E H t a b ok
    | _, _ => none
  | .extract x i => match ev x with
    | some (.tuple vs) => vs[i]?
    | _ => none
  | .load t x => match ev x with
    | some a => aload E H t a
    | none => none
  | .typeAssert x _ t ok => match ev x with
    | some a => aassert E a t ok
    | none => none
  | .call c => match c.callee with
    | .builtin b => match evL ev c.args.toList with
      | some vs => abuiltinR E H b c.argTypes vs
      | none => none
    | _ => none
  | _ => none

theorem sdata_run (a : Addr) (n : Nat) {c : Nat} (h : c ≠ 0) (ts : Array TypeId) (t : TypeId) (w : World) : (Builtin.unsafeSliceData_ ts t #[.slice (some a) n c]).run P w = .ok (.pointer (some a)) w := by
  change (ite (c ≠ 0) _ _ : Sem Value).run P w = _
  rw [if_pos h]
  rfl

theorem asdata_run (hR : Rel B W G ρ H w) {x v : AV} (h : asdata H x = some v) {x' : Value} (hx : conc ρ x = some x') (ts : Array TypeId) (t : TypeId) :
    ∃ v', conc ρ v = some v' ∧ (Builtin.unsafeSliceData_ ts t #[x']).run P w = .ok v' w := by
  unfold asdata at h
  split at h
  · cases h; cases conc_nilslice hx; exact ⟨_, rfl, rfl⟩
  · rename_i i o len c
    rcases bif_some h with ⟨_, h2⟩ | ⟨c1, h2⟩
    · cases h2
    cases h2
    obtain ⟨l, hl, rfl⟩ := conc_slice hx
    have hne : c ≠ 0 := fun h0 => by rw [h0] at c1; cases c1
    exact ⟨_, by simp only [conc, hl], sdata_run _ _ hne ts t w⟩
  · rename_i i o len eo
    split at h
    rotate_left
    · cases h
    rename_i cs el sz fz mk own ro st hr
    rcases bif_some h with ⟨c, h2⟩ | ⟨_, h2⟩
    rotate_left
    · cases h2
    cases h2
    simp only [Bool.and_eq_true] at c
    obtain ⟨⟨⟨c1, c2⟩, c3⟩, c4⟩ := c
    obtain rfl := Nat.eq_of_beq_eq_true c1
    have c2 := ble_le c2
    have c3 := blt_lt c3
    have c4 := blt_lt c4
    obtain ⟨l, hl, rfl⟩ := conc_slice hx
    have ho := hR.obj i l hl
    rw [hr] at ho
    obtain ⟨c, fr, k1, k2, k3, k4, k5, k6, _⟩ := ho
    have hcap : eo + len ≤ l.C := by
      have e1 : (eo + len) * sz ≤ l.C * sz := by rw [Nat.add_mul]; have := k6 rfl; omega
      exact Nat.le_of_mul_le_mul_right e1 c3
    have hne : l.C - eo ≠ 0 := by omega
    exact ⟨_, by simp only [conc, hl], sdata_run _ _ hne ts t w⟩
  · cases h

/-- An operation's value, carried. -/
theorem run_v {s : Sem Value} {v' : Value} {w w' : World} (h : s.run P w = .ok v' w') : (do pure (.value (← s)) : Sem Next).run P w = .ok (.value v') w' := by
  simp [h]

theorem run_builtin {cev : Operand → Value} {o : Oper} {b : Builtin} {args : Array Operand} {ts : Array TypeId} (ho : o.op = .call { callee := .builtin b, args := args, argTypes := ts }) (w : World) :
    (execOp cev o).run P w = (builtin b ts o.type (args.map fun | .const _ => true | _ => false) (args.map cev)).run P w := by
  simp only [execOp, ho, resolve, Sem.run_bind, Sem.run_pure, Result.andThen_ok, invoke]
  rfl

theorem aread_run (hE : E.Ok P) (hR : Rel B W G ρ H w) {ev : Operand → Option AV} {cev : Operand → Value} (hv : Evr ρ ev cev) {o : Oper} {v : AV} (h : aread E H ev o.op = some v) :
    ∃ v', conc ρ v = some v' ∧ (execOp cev o).run P w = .ok (.value v') w := by
  cases hop : o.op <;> rw [hop] at h <;> simp only [aread] at h
  case move x => exact ⟨_, hv x _ h, by simp [execOp, hop]⟩
  case assign x => exact ⟨_, hv x _ h, by simp [execOp, hop]⟩
  case pick c a b =>
    split at h
    rotate_left
    · cases h
    rename_i t hc
    have hb := conc_bool (hv c _ hc)
    cases t with
    | true => exact ⟨_, hv a _ h, by simp [execOp, hop, hb, asBool]⟩
    | false => exact ⟨_, hv b _ h, by simp [execOp, hop, hb, asBool]⟩
  case nilCheck x =>
    split at h
    rotate_left
    · cases h
    rename_i u hu
    rcases bif_some h with ⟨c, h2⟩ | ⟨_, h2⟩
    rotate_left
    · cases h2
    cases h2
    have hc := hv x _ hu
    refine ⟨_, hc, ?_⟩
    simp only [execOp, hop]
    generalize cev x = y at hc
    cases v with
    | nilptr => cases c
    | niliface => cases c
    | nilfunc => cases c
    | yield l => cases c
    | bool b => cases conc_bool hc; rfl
    | int k n => cases conc_int hc; rfl
    | str s => cases conc_str hc; rfl
    | ptr i o => obtain ⟨l, _, rfl⟩ := conc_ptr hc; rfl
    | nilslice => cases conc_nilslice hc; rfl
    | slice i o n cp => obtain ⟨l, _, rfl⟩ := conc_slice hc; rfl
    | sl0 i o1 o2 eo => obtain ⟨l, _, rfl⟩ := conc_sl0 hc; rfl
    | nilmap => cases conc_nilmap hc; rfl
    | map i => obtain ⟨l, _, rfl⟩ := conc_map hc; rfl
    | iface t u => obtain ⟨a, _, rfl⟩ := conc_iface hc; rfl
    | agg cs => obtain ⟨a, _, rfl⟩ := conc_agg hc; rfl
    | tuple cs => obtain ⟨a, _, rfl⟩ := conc_tuple hc; rfl
    | func fn f cp =>
      obtain ⟨a, b, _, _, rfl⟩ := conc_func hc
      cases fn with
      | method m => cases c
      | _ => rfl
  case build t parts =>
    obtain ⟨v', a, b⟩ := abuild_run (P := P) hE hv h w
    exact ⟨v', a, by simp only [execOp, hop]; exact run_v b⟩
  case binOp op t x y yt =>
    split at h
    rotate_left
    · cases h
    rename_i a b ha hb
    obtain ⟨v', e1, e2⟩ := abin_run (P := P) hE h (hv x _ ha) (hv y _ hb)
    exact ⟨v', e1, by simp only [execOp, hop]; exact run_v (e2 w)⟩
  case unOp op t x =>
    split at h
    rotate_left
    · cases h
    rename_i a ha
    unfold aun at h
    split at h
    · split at h
      · cases h; exact ⟨_, rfl, by simp [execOp, hop, conc_bool (hv x _ ha), Op.unary]⟩
      · cases h
    · split at h
      · cases h; exact ⟨_, rfl, by simp [execOp, hop, conc_int (hv x _ ha), Op.unary, Op.intArith]⟩
      · cases h
    · cases h
  case convert s d x =>
    split at h
    rotate_left
    · cases h
    rename_i a ha
    obtain ⟨v', e1, e2⟩ := aconv_run (P := P) hE hR h (hv x _ ha)
    exact ⟨v', e1, by simp only [execOp, hop]; exact run_v e2⟩
  case makeInterface t x =>
    split at h
    rotate_left
    · cases h
    rename_i a ha
    unfold amkIface at h
    split at h
    rotate_left
    · cases h
    rename_i i hi
    have hu := (hE.ty t i hi).1
    split at h
    · cases h
    rename_i hni
    cases h
    refine ⟨.iface t (cev x), by simp only [conc, hv x _ ha], ?_⟩
    simp only [execOp, hop]
    refine run_v ?_
    simp only [Instr.makeInterface, Sem.run_bind, run_underlying hu, Result.andThen_ok]
    revert hni; cases i.desc <;> simp
  case makeFunc fn f c =>
    split at h
    rotate_left
    · cases h
    rename_i a b ha hb
    cases h
    refine ⟨.func fn (f.map cev) (c.map cev), ?_, by simp only [execOp, hop]; exact run_v rfl⟩
    simp only [conc, evL_conc hv ha, evL_conc hv hb]
    have e : ∀ z : Array Operand, (z.toList.map cev).toArray = z.map cev := fun z => by apply Array.ext'; simp
    rw [e, e]
  case slice t x lo hi mx =>
    split at h
    rotate_left
    · cases h
    rename_i a l hh m ha hl hhh hm
    obtain ⟨v', e1, e2⟩ := asl_run (P := P) hE hR h (hv x _ ha) (evO_conc hv hl) (evO_conc hv hhh) (evO_conc hv hm)
    exact ⟨v', e1, by simp only [execOp, hop]; exact run_v e2⟩
  case fieldAddr t x f =>
    split at h
    rotate_left
    · cases h
    rename_i a ha
    obtain ⟨v', e1, e2⟩ := afieldAddr_run (P := P) hE h (hv x _ ha) w
    exact ⟨v', e1, by simp only [execOp, hop]; exact run_v e2⟩
  case field t x f =>
    split at h
    rotate_left
    · cases h
    rename_i a ha
    obtain ⟨v', e1, e2⟩ := afield_run (P := P) hE h (hv x _ ha) w
    exact ⟨v', e1, by simp only [execOp, hop]; exact run_v e2⟩
  case indexAddr t x i =>
    split at h
    rotate_left
    · cases h
    rename_i a b ha hb
    obtain ⟨v', e1, e2⟩ := aindexAddr_run (P := P) hE h (hv x _ ha) (hv i _ hb) w
    exact ⟨v', e1, by simp only [execOp, hop]; exact run_v e2⟩
  case index t x i =>
    split at h
    rotate_left
    · cases h
    rename_i a b ha hb
    obtain ⟨v', e1, e2⟩ := aindex_run (P := P) hE h (hv x _ ha) (hv i _ hb) w
    exact ⟨v', e1, by simp only [execOp, hop]; exact run_v e2⟩
  case lookup t x i ok =>
    split at h
    rotate_left
    · cases h
    rename_i a b ha hb
    obtain ⟨v', e1, e2⟩ := alookup_run (P := P) hE hR h (hv x _ ha) (hv i _ hb)
    exact ⟨v', e1, by simp only [execOp, hop]; exact run_v e2⟩
  case extract x i =>
    split at h
    rotate_left
    · cases h
    rename_i vs ha
    obtain ⟨vs', a, b⟩ := conc_tuple (hv x _ ha)
    obtain ⟨v', e1, e2⟩ := concL_get a i v h
    refine ⟨v', e2, ?_⟩
    simp only [execOp, hop, b]
    exact run_v (by simp [Instr.extract, e1])
  case load t x =>
    split at h
    rotate_left
    · cases h
    rename_i a ha
    cases a with
    | ptr i o' =>
      obtain ⟨l, hl, he⟩ := conc_ptr (hv x _ ha)
      obtain ⟨v', e1, e2⟩ := loadVar_run (P := P) hE hR h hl
      refine ⟨v', e1, ?_⟩
      simp only [execOp, hop, he]
      exact run_v (by simpa [Instr.loadAt, Instr.sureAddr] using e2)
    | _ => simp [aload] at h
  case typeAssert x xt t ok =>
    split at h
    rotate_left
    · cases h
    rename_i a ha
    obtain ⟨v', e1, e2⟩ := aassert_run (P := P) hE h (hv x _ ha) (xt := xt) w
    exact ⟨v', e1, by simp only [execOp, hop]; exact run_v e2⟩
  case call c =>
    obtain ⟨callee, args, ts⟩ := c
    cases callee with
    | value f => cases h
    | invoke r m => cases h
    | builtin b =>
      simp only at h
      split at h
      rotate_left
      · cases h
      rename_i vs hvs
      rw [run_builtin hop]
      have hc := evL_conc hv hvs
      have hargs : args.map cev = (args.toList.map cev).toArray := by apply Array.ext'; simp
      rw [hargs]
      generalize args.toList.map cev = vs' at hc
      unfold abuiltinR at h
      split at h
      · split at h
        rotate_left
        · cases h
        rename_i x t tl htl
        obtain ⟨a, b, rfl, ha, hb⟩ := concL_cons.1 hc
        simp [concL] at hb; subst hb
        obtain ⟨v', e1, e2⟩ := alen_run (P := P) hE hR (ts := ts) (ty := o.type) (by rw [← Array.getElem?_toList, htl]; rfl) h ha
        exact ⟨v', e1, run_v e2⟩
      · obtain ⟨v', e1, e2⟩ := aminmax_run (P := P) h hc ts o.type w
        exact ⟨v', e1, run_v e2⟩
      · obtain ⟨v', e1, e2⟩ := aminmax_run (P := P) h hc ts o.type w
        exact ⟨v', e1, run_v e2⟩
      · rename_i x
        obtain ⟨a, b, rfl, ha, hb⟩ := concL_cons.1 hc
        simp [concL] at hb; subst hb
        obtain ⟨v', e1, e2⟩ := asdata_run (P := P) hR h ha ts o.type
        exact ⟨v', e1, run_v e2⟩
      · cases h
  all_goals cases h

end Go.Am
/- An abstract machine for the model's code, part 11: operations that make or write memory: variables, slices, maps. -/
namespace Go.Am
open Go Go.RowKit

variable {E : Env} {P : Program} {B : Nat} {W : World} {G : Nat} {ρ : Ren} {H : AHeap} {w : World}

/-- What an operation comes to. -/
inductive ANext where
  | value (v : AV)
  | skip
  | enter (f : FuncId) (args : List AV)
  | defer (d : ADef)
  | recover
  | round (l : Nat) (fn nt : Nat) (tm : T AV) (assign body : Code)

def tmRel (ρ : Ren) (nt : Nat) (tm : T AV) (tmps : Array Value) : Prop :=
  tmps.size = nt ∧ ∀ t v, tm.get t = some v → ∃ v', conc ρ v = some v' ∧ tmps[t]? = some v'

theorem tmRel.mono {ρ ρ' : Ren} {nt : Nat} {tm : T AV} {tmps : Array Value} (h : tmRel ρ nt tm tmps) (k : ρ.le ρ') : tmRel ρ' nt tm tmps :=
  ⟨h.1, fun t v e => let ⟨v', a, b⟩ := h.2 t v e; ⟨v', conc_mono k _ _ a, b⟩⟩

/-- A call laid aside, as the model has it. -/
def defRel (ρ : Ren) (d : ADef) (d' : Deferred) : Prop :=
  ∃ fn first captured args, d.target = .func fn first captured ∧ ∃ f' c' a', concL ρ first = some f' ∧ concL ρ captured = some c' ∧ concL ρ args = some a' ∧ d.args = args ∧
    d' = { target := .fn fn c'.toArray, args := f'.toArray ++ a'.toArray }

theorem defRel.mono {ρ ρ' : Ren} {d : ADef} {d' : Deferred} (h : defRel ρ d d') (k : ρ.le ρ') : defRel ρ' d d' := by
  obtain ⟨fn, f, c, a, h1, f', c', a', h2, h3, h4, h5⟩ := h
  exact ⟨fn, f, c, a, h1, f', c', a', concL_mono k _ _ h2, concL_mono k _ _ h3, concL_mono k _ _ h4, h5⟩

def nextRel (ρ : Ren) : ANext → Next → Prop
  | .value v, .value v' => conc ρ v = some v'
  | .skip, .skip => True
  | .enter f args, .enter f' args' => f' = f ∧ ∃ l, concL ρ args = some l ∧ args' = l.toArray
  | .defer d, .defer d' => defRel ρ d d'
  | .recover, .recover => True
  | .round l fn nt tm a b, .round l' fn' tmps a' b' => (∃ lo, ρ l = some lo ∧ l' = lo.b) ∧ fn' = fn ∧ tmRel ρ nt tm tmps ∧ a' = a ∧ b' = b
  | _, _ => False

/-- What is to be shown of an operation's step. -/
def Step (P : Program) (B : Nat) (W : World) (G : Nat) (ρ : Ren) (H : AHeap) (w : World) (s : Sem Next) (nx : ANext) (H' : AHeap) : Prop :=
  ∃ ρ' w' nx', s.run P w = .ok nx' w' ∧ nextRel ρ' nx nx' ∧ Rel B W G ρ' H' w' ∧ ρ.ext H.next ρ' ∧ H.next ≤ H'.next

theorem Step.value {s : Sem Value} {v : AV} {H' : AHeap} (h : ∃ ρ' w' v', s.run P w = .ok v' w' ∧ conc ρ' v = some v' ∧ Rel B W G ρ' H' w' ∧ ρ.ext H.next ρ' ∧ H.next ≤ H'.next) :
    Step P B W G ρ H w (do pure (.value (← s))) (.value v) H' := by
  obtain ⟨ρ', w', v', a, b, c⟩ := h
  exact ⟨ρ', w', _, run_v a, b, c⟩

theorem Step.skip {s : Sem Unit} {H' : AHeap} (h : ∃ ρ' w', s.run P w = .ok () w' ∧ Rel B W G ρ' H' w' ∧ ρ.ext H.next ρ' ∧ H.next ≤ H'.next) :
    Step P B W G ρ H w (do s; pure .skip) .skip H' := by
  obtain ⟨ρ', w', a, c⟩ := h
  exact ⟨ρ', w', .skip, by simp [a], trivial, c⟩

/-- Room for a block more. -/
def AHeap.roomy (H : AHeap) : Bool := Nat.blt (H.next + 2) 16777216

theorem roomy_lt (h : H.roomy = true) : H.next + 2 < 2 ^ deep := blt_lt h

theorem alloc_new (w : World) (o : Obj) : (w.alloc o).heap[w.heap.size]? = some o := by
  show (w.heap.push o)[w.heap.size]? = _
  simp
theorem alloc_frozen (w : World) (c : Array Value) (t k : Nat) : (w.alloc (.cells c t)).frozen? ⟨w.heap.size, k, none⟩ = false := by
  simp only [World.frozen?, alloc_new]
  simp

/-- A NEW ROW: its first cells are known, the rest is there. -/
theorem Rel.newRow (h : Rel B W G ρ H w) (hr : H.roomy = true) {cs : List AV} {vs : List Value} (hc : concL ρ cs = some vs) (rest : List Value) (el sz C : Nat) (gr mk : Bool) (stale : List Nat) (fz : Nat)
    (hC : C * sz ≤ vs.length + rest.length) (hg : gr = true → cs.length ≤ C * sz) (hg2 : gr = false → rest = []) :
    Rel B W G (ρ.put H.next ⟨w.heap.size, 0, C⟩) (H.push (.row cs el sz fz gr mk true false stale)) (w.alloc (.cells (vs ++ rest).toArray el)) := by
  refine h.new (roomy_lt hr) ?_
  have hlen := concL_length hc
  have hle : ρ.le (ρ.put H.next ⟨w.heap.size, 0, C⟩) := h.le (Ren.put_ext _ _ _)
  refine ⟨(vs ++ rest).toArray, (0, 0), alloc_new w _, by simp; omega, by simpa using hC, fun k v e => ?_, fun k a b => alloc_frozen w _ _ _, hg, fun k => ⟨rfl, by simp [hg2 k, hlen]⟩, fun _ => .inl rfl⟩
  obtain ⟨v', a, b⟩ := concL_get hc k v e
  refine ⟨v', conc_mono hle _ _ b, ?_⟩
  show (vs ++ rest).toArray[0 + k]? = _
  rw [Nat.zero_add, List.getElem?_toArray, List.getElem?_append_left]
  · exact a
  · rcases Nat.lt_or_ge k vs.length with h' | h'
    · exact h'
    · rw [List.getElem?_eq_none h'] at a; cases a

/-- A variable. -/
def anew (H : AHeap) (t : Nat) (cs : List AV) : Option (AV × AHeap) :=
  bif H.roomy then some (.ptr H.next 0, H.push (.row cs t 0 0 false false true false [])) else none

theorem anew_run (h : Rel B W G ρ H w) {t : Nat} {cs : List AV} {v : AV} {H' : AHeap} (hn : anew H t cs = some (v, H')) {u : Value} (hc : concL ρ cs = some u.cells.toList) :
    ∃ ρ' w' a', (newVar t u).run P w = .ok a' w' ∧ conc ρ' v = some (.pointer (some a')) ∧ Rel B W G ρ' H' w' ∧ ρ.ext H.next ρ' ∧ H.next ≤ H'.next := by
  unfold anew at hn
  rcases bif_some hn with ⟨c, h2⟩ | ⟨_, h2⟩
  rotate_left
  · cases h2
  cases h2
  refine ⟨_, _, ⟨w.heap.size, 0, none⟩, ?_, ?_, h.newRow c hc [] t 0 0 false false [] 0 (by simp) (fun k => by cases k) (fun _ => rfl), Ren.put_ext _ _ _, Nat.le_succ _⟩
  · simp only [List.append_nil, Array.toArray_toList]
    rfl
  · simp [conc, Ren.put_same]

/-- Zero cells. -/
def azeros (n : Nat) (z : List AV) : List AV := (List.replicate n z).flatten

theorem flat_rep {α : Type} (z : List α) : ∀ (n i : Nat), i < n * z.length → ((List.replicate n z).flatten)[i]? = z[i % z.length]? := by
  intro n
  induction n with
  | zero => intro i h; simp at h
  | succ n ih =>
    intro i h
    rw [List.replicate_succ, List.flatten_cons]
    by_cases hi : i < z.length
    · rw [List.getElem?_append_left hi, Nat.mod_eq_of_lt hi]
    · rw [List.getElem?_append_right (by omega), ih (i - z.length) (by rw [Nat.succ_mul] at h; omega)]
      congr 1
      rw [← Nat.mod_eq_sub_mod (by omega)]

theorem range_zero (z : Array Value) (n : Nat) : (Array.range (n * z.size)).map (fun i => z[i % z.size]!) = ((List.replicate n z.toList).flatten).toArray := by
  apply Array.ext
  · simp
  · intro i h1 h2
    have hi : i < n * z.size := by simpa using h1
    have hz : 0 < z.size := by
      rcases Nat.eq_zero_or_pos z.size with h0 | h0
      · rw [h0] at hi; simp at hi
      · exact h0
    have hm : i % z.size < z.size := Nat.mod_lt _ hz
    have e := flat_rep z.toList n i (by simpa using hi)
    have e2 : ((List.replicate n z.toList).flatten)[i]? = some (((List.replicate n z.toList).flatten).toArray[i]'h2) := by
      rw [List.getElem?_eq_getElem (by simpa using hi)]; rfl
    rw [e2] at e
    have e3 : z.toList[i % z.toList.length]? = some (z[i % z.size]'hm) := by
      simp [hm]
    rw [e3] at e
    simp only [Array.getElem_map, Array.getElem_range]
    rw [getElem!_pos z _ hm]
    exact (Option.some.inj e).symm

theorem azeros_conc {z : List AV} {z' : List Value} (h : concL ρ z = some z') : ∀ n : Nat, concL ρ (azeros n z) = some ((List.replicate n z').flatten)
  | 0 => rfl
  | n + 1 => by
    show concL ρ ((List.replicate (n + 1) z).flatten) = _
    rw [List.replicate_succ, List.replicate_succ, List.flatten_cons, List.flatten_cons]
    exact concL_append h (azeros_conc h n)

theorem azeros_length (n : Nat) (z : List AV) : (azeros n z).length = n * z.length := by simp [azeros]

/-- A slice's literal. -/
def abuildSlice (E : Env) (ev : Operand → Option AV) (H : AHeap) (t : TypeId) (len : Nat) (parts : List (Nat × Operand)) : Option (AV × AHeap) :=
  match E.ty.get t, aparts ev parts with
  | some x, some ps => match x.desc with
    | .slice e => match E.ty.get e with
      | some y => bif H.roomy && Nat.ble (len * y.size) 16777216 && Nat.beq y.zero.cells.length y.size then
          match afill (fun i => some (i * y.size, y.size)) (azeros len y.zero.cells) ps with
          | some cs => some (.slice H.next 0 len (.known len), H.push (.row cs e 0 0 false false true false []))
          | none => none
        else none
      | none => none
    | _ => none
  | _, _ => none

theorem abuildSlice_run (hE : E.Ok P) (hR : Rel B W G ρ H w) {ev : Operand → Option AV} {cev : Operand → Value} (hv : Evr ρ ev cev) {t : TypeId} {len : Nat} {parts : Array (Nat × Operand)} {v : AV} {H' : AHeap}
    (h : abuildSlice E ev H t len parts.toList = some (v, H')) :
    ∃ ρ' w' v', (Instr.buildSlice t len (parts.map fun (q : Nat × Operand) => (q.1, cev q.2))).run P w = .ok v' w' ∧ conc ρ' v = some v' ∧ Rel B W G ρ' H' w' ∧ ρ.ext H.next ρ' ∧ H.next ≤ H'.next := by
  unfold abuildSlice at h
  split at h
  rotate_left
  · cases h
  rename_i x ps ht hps
  have hu := (hE.ty t x ht).1
  obtain ⟨p1, p2⟩ := aparts_conc hv hps
  have hmap : (parts.map fun (q : Nat × Operand) => (q.1, cev q.2)).toList = parts.toList.map fun (q : Nat × Operand) => (q.1, cev q.2) := by simp
  split at h
  rotate_left
  · cases h
  rename_i e hd
  rw [hd] at hu
  split at h
  rotate_left
  · cases h
  rename_i y hy
  obtain ⟨zv, hz, hzc⟩ := hE.zero hy
  rcases bif_some h with ⟨c, h2⟩ | ⟨_, h2⟩
  rotate_left
  · cases h2
  clear h
  simp only [Bool.and_eq_true] at c
  obtain ⟨⟨c1, c2⟩, c3⟩ := c
  have c2 := ble_le c2
  have c3 := Nat.eq_of_beq_eq_true c3
  split at h2
  rotate_left
  · cases h2
  rename_i cs hf
  cases h2
  have hzl := concL_length (conc_cells (hzc ρ))
  simp only [Array.length_toList] at hzl
  have hzs : zv.cells.size = y.size := by omega
  obtain ⟨out', f1, f2⟩ := afill_run hf (azeros_conc (conc_cells (hzc ρ)) len) (parts' := parts.toList.map fun (q : Nat × Operand) => (q.1, cev q.2)) (by simp [p1]) p2
  refine ⟨_, _, .slice (some ⟨w.heap.size, 0, none⟩) len len, ?_, ?_, hR.newRow c1 f2 [] e 0 0 false false [] 0 (by simp) (fun k => by cases k) (fun _ => rfl), Ren.put_ext _ _ _, Nat.le_succ _⟩
  · simp only [Instr.buildSlice, Sem.run_bind, run_underlying hu, Result.andThen_ok, hE.size hy w]
    rw [if_neg (by omega)]
    simp only [List.append_nil, Array.toArray_toList]
    by_cases h0 : len * y.size = 0
    · rw [if_pos h0]
      have hzero : ((Array.range (len * y.size)).map fun (i : Nat) => (#[] : Array Value)[i % (#[] : Array Value).size]!) = ((List.replicate len zv.cells.toList).flatten).toArray := by
        rw [h0, ← range_zero, hzs, h0]; simp
      simp only [Sem.run_bind, Sem.run_pure, Result.andThen_ok]
      rw [hzero, hmap, f1]
      rfl
    · rw [if_neg h0]
      simp only [Sem.run_bind, hz w, Sem.run_pure, Result.andThen_ok]
      have hzero : ((Array.range (len * y.size)).map fun (i : Nat) => zv.cells[i % zv.cells.size]!) = ((List.replicate len zv.cells.toList).flatten).toArray := by
        rw [← range_zero, hzs]
      rw [hzero, hmap, f1]
      rfl
  · simp [conc, Ren.put_same, ACap.conc]

/-- A variable written. -/
def astore (E : Env) (H : AHeap) (t : TypeId) (a v : AV) : Option AHeap :=
  match a, E.ty.get t with
  | .ptr i o, some y => bif Nat.beq v.cells.length y.size then H.storeN i o v.cells else none
  | _, _ => none

theorem astore_run (hE : E.Ok P) (hR : Rel B W G ρ H w) {t : TypeId} {a v : AV} {H' : AHeap} (h : astore E H t a v = some H') {a' v' : Value} (ha : conc ρ a = some a') (hv : conc ρ v = some v') :
    ∃ w', (Instr.storeAt t a' v').run P w = .ok () w' ∧ Rel B W G ρ H' w' ∧ H'.next = H.next := by
  unfold astore at h
  split at h
  rotate_left
  · cases h
  rename_i i o y hy
  rcases bif_some h with ⟨c, h2⟩ | ⟨_, h2⟩
  rotate_left
  · cases h2
  have c := Nat.eq_of_beq_eq_true c
  obtain ⟨l, hl, rfl⟩ := conc_ptr ha
  have hlen := concL_length (conc_cells hv)
  simp only [Array.length_toList] at hlen
  obtain ⟨w', e1, e2, e3⟩ := hR.storeN (P := P) hl h2 (conc_cells hv)
  refine ⟨w', ?_, e2, e3⟩
  simp only [Instr.storeAt, Instr.sureAddr, Sem.run_bind, Sem.run_pure, Result.andThen_ok, storeVar, hE.size hy w]
  rw [if_neg (by omega)]
  rw [e1]

/-- make of a slice. -/
def amakeSlice (E : Env) (H : AHeap) (t : TypeId) (l c : AV) : Option (AV × AHeap) :=
  match E.ty.get t, natOf l, natOf c with
  | some x, some n, some m => match x.desc with
    | .slice e => match E.ty.get e with
      | some y => bif H.roomy && Nat.ble n m && Nat.ble m 1099511627776 && Nat.ble (y.bytes * m) 281474976710656 && Nat.beq y.zero.cells.length y.size then
          some (.slice H.next 0 n (.known m), H.push (.row (azeros m y.zero.cells) e 0 0 false false true false []))
        else none
      | none => none
    | _ => none
  | _, _, _ => none

theorem wrap_small {n : Nat} (h : n ≤ 1099511627776) : IntKind.i64.wrap (n : Int) = n := by
  have e : ((n : Int) % (2 ^ IntKind.i64.bits : Int)) = n := Int.emod_eq_of_lt (by omega) (by show (n : Int) < 2 ^ 64; omega)
  simp only [IntKind.wrap, e]
  rw [if_neg]
  simp only [Bool.and_eq_true, decide_eq_true_eq, not_and]
  intro _
  show ¬ ((n : Int) ≥ 2 ^ 63)
  omega

theorem amakeSlice_run (hE : E.Ok P) (hR : Rel B W G ρ H w) {t : TypeId} {l c v : AV} {H' : AHeap} (h : amakeSlice E H t l c = some (v, H')) {l' c' : Value} (hl : conc ρ l = some l') (hc : conc ρ c = some c') :
    ∃ ρ' w' v', (Instr.makeSlice t l' c').run P w = .ok v' w' ∧ conc ρ' v = some v' ∧ Rel B W G ρ' H' w' ∧ ρ.ext H.next ρ' ∧ H.next ≤ H'.next := by
  unfold amakeSlice at h
  split at h
  rotate_left
  · cases h
  rename_i x n m ht hn hm
  have hu := (hE.ty t x ht).1
  split at h
  rotate_left
  · cases h
  rename_i e hd
  rw [hd] at hu
  split at h
  rotate_left
  · cases h
  rename_i y hy
  obtain ⟨zv, hz, hzc⟩ := hE.zero hy
  obtain ⟨ti, i1, i2, i3⟩ := hE.info hy
  rcases bif_some h with ⟨cc, h2⟩ | ⟨_, h2⟩
  rotate_left
  · cases h2
  cases h2
  simp only [Bool.and_eq_true] at cc
  obtain ⟨⟨⟨⟨c1, c2⟩, c3⟩, c4⟩, c5⟩ := cc
  have c2 := ble_le c2
  have c3 := ble_le c3
  have c4 := ble_le c4
  have c5 := Nat.eq_of_beq_eq_true c5
  obtain ⟨k1, rfl⟩ := natOf_conc hn hl
  obtain ⟨k2, rfl⟩ := natOf_conc hm hc
  have hzl := concL_length (conc_cells (hzc ρ))
  simp only [Array.length_toList] at hzl
  have hzs : zv.cells.size = y.size := by omega
  refine ⟨_, _, .slice (some ⟨w.heap.size, 0, none⟩) n m, ?_, ?_, hR.newRow c1 (azeros_conc (conc_cells (hzc ρ)) m) [] e 0 0 false false [] 0 (by simp) (fun k => by cases k) (fun _ => rfl), Ren.put_ext _ _ _, Nat.le_succ _⟩
  · simp only [Instr.makeSlice, Sem.run_bind, run_underlying hu, Result.andThen_ok, asInt, asIntOf, Sem.run_pure, typeInfo, run_program, i1, i3, wrap_small (show n ≤ 1099511627776 by omega), wrap_small c3]
    have hb : ¬ ((y.bytes : Int) * (m : Int) > 2 ^ 48) := by
      have : (y.bytes : Int) * (m : Int) = ((y.bytes * m : Nat) : Int) := by simp
      rw [this]; omega
    have hcond : (decide ((m : Int) < 0) || decide ((y.bytes : Int) * (m : Int) > 2 ^ 48) || decide ((n : Int) < 0) || decide ((n : Int) > (m : Int))) = false := by
      simp only [Bool.or_eq_false_iff, decide_eq_false_iff_not]
      exact ⟨⟨⟨by omega, hb⟩, by omega⟩, by omega⟩
    rw [if_neg (by
      simp only [Bool.or_eq_false_iff, decide_eq_false_iff_not] at hcond
      simp only [Bool.or_eq_true, decide_eq_true_eq]
      omega)]
    simp only [Sem.run_bind, run_askRoom, Result.andThen_ok, hE.size hy w, Int.toNat_natCast, List.append_nil]
    by_cases h0 : m * y.size = 0
    · rw [if_pos h0]
      have hzero : ((Array.range (m * y.size)).map fun (i : Nat) => (#[] : Array Value)[i % (#[] : Array Value).size]!) = ((List.replicate m zv.cells.toList).flatten).toArray := by
        rw [h0, ← range_zero, hzs, h0]; simp
      rw [Sem.run_bind, Sem.run_pure, Result.andThen_ok]
      rw [hzero]
      rfl
    · rw [if_neg h0]
      simp only [Sem.run_bind, hz w, Sem.run_pure, Result.andThen_ok]
      have hzero : ((Array.range (m * y.size)).map fun (i : Nat) => zv.cells[i % zv.cells.size]!) = ((List.replicate m zv.cells.toList).flatten).toArray := by
        rw [← range_zero, hzs]
      rw [hzero]
      rfl
  · simp [conc, Ren.put_same, ACap.conc]

end Go.Am
/- An abstract machine for the model's code, part 12: append, copy, clear. -/
namespace Go.Am
open Go Go.RowKit

variable {E : Env} {P : Program} {B : Nat} {W : World} {G : Nat} {ρ : Ren} {H : AHeap} {w : World}

/-- Less known of one block, nothing of some. -/
theorem Rel.weaken (h : Rel B W G ρ H w) {i : Nat} {l : Loc} (hi : ρ i = some l) (hlive : (H.get i).live = true) (hro : (H.get i).ro = false) {o : AObj} (ho : objRel ρ w l o) (hown : o.own = false) (st : List Nat) :
    Rel B W G ρ ((H.set i o).kill st) w := by
  have hin : ∀ j m, ρ j = some m → j + 1 < 2 ^ deep := fun j m hj => by have := h.lt j m hj; have := h.room; omega
  have hg : ∀ j m, ρ j = some m → ((H.set i o).kill st).get j = if j ∈ st then .dead else if j = i then o else H.get j := by
    intro j m hj
    rw [AHeap.get_kill _ _ _ (hin j m hj)]
    by_cases hji : j = i
    · subst hji; rw [AHeap.get_set_same _ _ (hin j m hj)]; simp
    · rw [AHeap.get_set_ne _ _ hji]; simp [hji]
  have hB : B ≤ l.b := by
    rcases Nat.lt_or_ge l.b B with hlt | hge
    · have := h.old i l hi hlt; rw [hro] at this; cases this
    · exact hge
  refine ⟨h.frame, ?_, ?_, h.at_, ?_, ?_, h.glob, h.fits, ?_⟩
  · intro j m hj
    rw [hg j m hj]
    split
    · trivial
    · split
      · rename_i hji; subst hji; rw [hi] at hj; cases hj; exact ho
      · exact h.obj j m hj
  · intro j m hj; rw [AHeap.kill_next]; exact h.lt j m hj
  · intro j m hj hlt
    rw [hg j m hj]
    split
    · rfl
    · split
      · rename_i hji; subst hji; rw [hi] at hj; cases hj; omega
      · exact h.old j m hj hlt
  · intro a b la lb ha hb hab heq hlva hlvb
    rw [hg a la ha] at hlva
    rw [hg b lb hb] at hlvb
    unfold Apart
    rw [hg a la ha, hg b lb hb]
    by_cases hsa : a ∈ st
    · simp [hsa, AObj.live] at hlva
    · by_cases hsb : b ∈ st
      · simp [hsb, AObj.live] at hlvb
      · simp only [hsa, hsb, if_false] at hlva hlvb ⊢
        by_cases hai : a = i
        · rw [if_pos hai]
          exact ⟨fun k => (by rw [hown] at k; cases k), fun k => (by rw [hown] at k; cases k)⟩
        · rw [if_neg hai] at hlva ⊢
          by_cases hbi : b = i
          · rw [if_pos hbi] at hlvb ⊢
            have := h.sep a b la lb ha hb hab heq hlva (by rw [hbi]; exact hlive)
            exact ⟨fun _ => hown, this.2⟩
          · rw [if_neg hbi] at hlvb ⊢
            exact h.sep a b la lb ha hb hab heq hlva hlvb
  · rw [AHeap.kill_next]; exact h.room

def alenOf : AV → Option Nat
  | .nilslice => some 0
  | .slice _ _ n _ => some n
  | .str s => some s.length
  | _ => none

theorem alenOf_run {x : AV} {n : Nat} (h : alenOf x = some n) {x' : Value} (hx : conc ρ x = some x') (w : World) : (Builtin.lenOf x').run P w = .ok n w := by
  unfold alenOf at h
  split at h
  · cases h; cases conc_nilslice hx; rfl
  · cases h; obtain ⟨l, _, rfl⟩ := conc_slice hx; rfl
  · cases h; cases conc_str hx; simp [Builtin.lenOf, ByteArray.size]
  · cases h

/-- The first cells of a slice or of a string. -/
def acells (H : AHeap) (sz n : Nat) : AV → Option (List AV)
  | .nilslice => bif Nat.beq n 0 then some [] else none
  | .slice i o _ _ => bif Nat.beq (n * sz) 0 then some [] else match H.get i with
    | .row cs _ _ _ _ _ _ _ _ => bif Nat.ble (o + n * sz) cs.length then some ((cs.drop o).take (n * sz)) else none
    | _ => none
  | .str s => bif Nat.ble n s.length && Nat.beq sz 1 then some ((s.take n).map fun b => .int .u8 (b.toNat : Int)) else none
  | _ => none

theorem conc_bytes (s : List UInt8) : concL ρ (s.map fun b => AV.int .u8 (b.toNat : Int)) = some (s.map fun b => Value.int .u8 (b.toNat : Int)) := by
  induction s with
  | nil => rfl
  | cons b s ih => exact concL_cons.2 ⟨_, _, rfl, rfl, ih⟩

theorem acells_run (hR : Rel B W G ρ H w) {sz n : Nat} {x : AV} {cs : List AV} (h : acells H sz n x = some cs) {x' : Value} (hx : conc ρ x = some x') :
    ∃ vs, concL ρ cs = some vs ∧ vs.length = n * sz ∧ (Builtin.firstCells sz n x').run P w = .ok vs.toArray w := by
  unfold acells at h
  split at h
  · rcases bif_some h with ⟨c, h2⟩ | ⟨_, h2⟩
    · cases h2; cases conc_nilslice hx
      obtain rfl := Nat.eq_of_beq_eq_true c
      exact ⟨[], rfl, by simp, rfl⟩
    · cases h2
  · rename_i i o len cp
    obtain ⟨l, hl, rfl⟩ := conc_slice hx
    rcases bif_some h with ⟨c, h2⟩ | ⟨_, h2⟩
    · cases h2
      have c : n * sz = 0 := Nat.eq_of_beq_eq_true c
      refine ⟨[], rfl, by simp [c], ?_⟩
      simp only [Builtin.firstCells, c]
      rfl
    · split at h2
      rotate_left
      · cases h2
      rename_i cs0 el s fz gr mk own ro st hr
      rcases bif_some h2 with ⟨c, h3⟩ | ⟨_, h3⟩
      rotate_left
      · cases h3
      cases h3
      obtain ⟨vs', a, b, _, d⟩ := hR.loads (P := P) hl hr o (n * sz) (ble_le c)
      exact ⟨vs', a, b, d⟩
  · rename_i s
    rcases bif_some h with ⟨c, h2⟩ | ⟨_, h2⟩
    rotate_left
    · cases h2
    cases h2; cases conc_str hx
    simp only [Bool.and_eq_true] at c
    obtain ⟨c1, c2⟩ := c
    have c1 := ble_le c1
    obtain rfl := Nat.eq_of_beq_eq_true c2
    refine ⟨_, conc_bytes (s.take n), by simp; omega, ?_⟩
    simp only [Builtin.firstCells, ByteArray.extract_mk, Sem.run_pure]
    simp
  · cases h

theorem growBy_le (m : Nat) : ∀ (r c : Nat), Builtin.growBy m r c ≤ max c (m + (m + 768) / 4)
  | 0, c => by simp [Builtin.growBy]; omega
  | r + 1, c => by
    simp only [Builtin.growBy]
    split
    · omega
    · have := growBy_le m r (c + (c + 768) / 4); omega

theorem nextcap_le {n o : Nat} (h : o < n) : Builtin.nextslicecap n o ≤ 2 * n + 256 := by
  unfold Builtin.nextslicecap
  split
  · omega
  · split
    · omega
    · have := growBy_le n 4 o; omega

def notInt : TypeDesc → Bool
  | .int _ => false
  | _ => true

theorem run_append_fit {ts : Array TypeId} {t0 t1 e : TypeId} (hts : ts.toList = [t0, t1]) (hu : P.underlying t0 = some (.slice e)) {d : TypeDesc} (hx : P.underlying t1 = some d) (hd : notInt d = true) {sz : Nat} (hsz : ∀ w, (sizeOf e).run P w = .ok sz w)
    (base : Option Addr) (sLen sCap n : Nat) (x' : Value) (hl : ∀ w, (Builtin.lenOf x').run P w = .ok n w) (hfit : sLen + n ≤ sCap) {new : Array Value} (hnew : (Builtin.firstCells sz n x').run P w = .ok new w)
    (ty : TypeId) {w' : World} (hst : match base with | some a => (storeCells (a.add (sLen * sz)) new.toList).run P w = .ok () w' | none => w' = w) :
    (Builtin.append_ ts ty #[.slice base sLen sCap, x']).run P w = .ok (.slice base (sLen + n) sCap) w' := by
  have h0 : ts[0]? = some t0 := by rw [← Array.getElem?_toList, hts]; rfl
  have h1 : ts[1]? = some t1 := by rw [← Array.getElem?_toList, hts]; rfl
  have h2 : (#[Value.slice base sLen sCap, x'] : Array Value)[0]? = some (.slice base sLen sCap) := rfl
  have h3 : (#[Value.slice base sLen sCap, x'] : Array Value)[1]? = some x' := rfl
  simp only [Builtin.append_, h0, h1, h2, h3]
  simp only [Sem.run_bind, run_underlying hu, Result.andThen_ok, hsz, run_underlying hx, Sem.run_pure]
  rw [if_neg (by cases d <;> first | (simp [notInt] at hd; done) | simp)]
  simp only [Sem.run_bind, hl, Result.andThen_ok]
  rw [if_pos hfit]
  simp only [Sem.run_bind]
  rw [if_pos (by cases d <;> first | (simp [notInt] at hd; done) | simp), hnew]
  simp only [Result.andThen_ok]
  cases base with
  | none => simp only at hst; subst hst; rfl
  | some a => simp only at hst; simp only [Sem.run_bind, hst, Result.andThen_ok, Sem.run_pure]

theorem run_append_grow' {ts : Array TypeId} {t0 t1 e : TypeId} (hts : ts.toList = [t0, t1]) (hu : P.underlying t0 = some (.slice e)) {d : TypeDesc} (hx : P.underlying t1 = some d) (hd : notInt d = true) {ti : TypeInfo} (hti : P.info? e = some ti)
    {zv : Value} (hz : ∀ w, (zeroValue e).run P w = .ok zv w)
    (base : Option Addr) (sLen sCap n : Nat) (x' : Value) (hl : ∀ w, (Builtin.lenOf x').run P w = .ok n w) (hgt : sCap < sLen + n) (hb1 : (2 * (sLen + n) + 256) * ti.bytes ≤ 281474976710656) (hb2 : sLen + n ≤ 1099511627776)
    {old new : Array Value} (hold : (Builtin.firstCells ti.size sLen (.slice base sLen sCap)).run P w.drew = .ok old w.drew) (hnew : (Builtin.firstCells ti.size n x').run P w.drew = .ok new w.drew) (ty : TypeId) :
    ∃ c, sLen + n ≤ c ∧ (Builtin.append_ ts ty #[.slice base sLen sCap, x']).run P w = .ok (.slice (some ⟨w.heap.size, 0, none⟩) (sLen + n) c) (w.drew.alloc (.cells (old ++ new ++ Builtin.zeroCells zv.cells (c - (sLen + n))) e)) := by
  have h0 : ts[0]? = some t0 := by rw [← Array.getElem?_toList, hts]; rfl
  have h1 : ts[1]? = some t1 := by rw [← Array.getElem?_toList, hts]; rfl
  have hsz : ∀ w, (sizeOf e).run P w = .ok ti.size w := fun w => by simp [sizeOf, typeInfo, hti]
  have hinfo : ∀ w, (typeInfo e).run P w = .ok ti w := fun w => by simp [typeInfo, hti]
  refine ⟨(Question.appendCap (sLen + n) sCap e).cut (w.tape w.drawn (.appendCap (sLen + n) sCap e)), Nat.le_add_right _ _, ?_⟩
  have h2 : (#[Value.slice base sLen sCap, x'] : Array Value)[0]? = some (.slice base sLen sCap) := rfl
  have h3 : (#[Value.slice base sLen sCap, x'] : Array Value)[1]? = some x' := rfl
  simp only [Builtin.append_, h0, h1, h2, h3]
  simp only [Sem.run_bind, run_underlying hu, Result.andThen_ok, hsz, run_underlying hx, Sem.run_pure]
  rw [if_neg (by cases d <;> first | (simp [notInt] at hd; done) | simp)]
  simp only [Sem.run_bind, hl, Result.andThen_ok]
  rw [if_neg (by omega)]
  simp only [Sem.run_bind, hinfo, Result.andThen_ok]
  rw [if_neg (by
    rintro ⟨k, _⟩
    have e : IntKind.i64.max = 9223372036854775807 := by decide
    rw [e] at k; omega)]
  have hcap : ¬ (Builtin.nextslicecap (sLen + n) sCap * ti.bytes > 2 ^ 48) := by
    have := Nat.mul_le_mul_right ti.bytes (nextcap_le hgt)
    omega
  simp only [Sem.run_bind, hinfo, Result.andThen_ok]
  rw [if_neg hcap]
  simp only [Sem.run_bind, run_choose_drew, Question.forced, Bool.false_eq_true, if_false, Result.andThen_ok, hinfo, run_askRoom, hold]
  rw [if_pos (by cases d <;> first | (simp [notInt] at hd; done) | simp), hnew]
  simp only [Result.andThen_ok, hz, Sem.run_pure]
  rfl

end Go.Am
/- An abstract machine for the model's code, part 13: append, copy, clear, bytes out of a string and back. -/
namespace Go.Am
open Go Go.RowKit

variable {E : Env} {P : Program} {B : Nat} {W : World} {G : Nat} {ρ : Ren} {H : AHeap} {w : World}

def growNew (H : AHeap) (e sz need : Nat) (cs : List AV) : AV × AHeap :=
  (.slice H.next 0 need (.rest 0), H.push (.row cs e sz 0 true false true false []))

def rowFits (H : AHeap) (i e sz : Nat) : Bool := match H.get i with
  | .row _ el s _ _ _ _ _ _ => Nat.beq el e && Nat.beq s sz
  | _ => false

/-- append of n elements, whose cells are given. -/
def aapp (H : AHeap) (e sz : Nat) (s : AV) (n : Nat) (new : List AV) : Option (AV × AHeap) :=
  match s with
  | .nilslice => bif Nat.beq n 0 then some (.nilslice, H) else some (growNew H e sz n new)
  | .slice i o len (.known c) => bif Nat.beq n 0 && Nat.ble len c then some (s, H) else
      bif Nat.ble (len + n) c then (match H.storeN i (o + len * sz) new with
        | some H' => some (.slice i o (len + n) (.known c), H')
        | none => none)
      else (match acells H sz len s with
        | some old => some (growNew H e sz (len + n) (old ++ new))
        | none => none)
  | .slice i o len (.rest eo) => bif rowFits H i e sz then
      (match H.grow i o len eo new with
        | some H' => some (.slice H.next 0 (len + n) (.rest 0), H')
        | none => none)
      else none
  | _ => none

def aappend (E : Env) (H : AHeap) (ts : Array TypeId) (s x : AV) : Option (AV × AHeap) :=
  match ts.toList with
  | [t0, t1] => match E.ty.get t0, E.ty.get t1 with
    | some i0, some i1 => match i0.desc with
      | .slice e => match E.ty.get e, alenOf x, alenOf s with
        | some y, some n, some len => bif H.roomy && notInt i1.desc && Nat.ble ((2 * (len + n) + 256) * y.bytes) 281474976710656 && Nat.ble (len + n) 1099511627776 && Nat.beq y.zero.cells.length y.size then
            (match acells H y.size n x with
              | some new => aapp H e y.size s n new
              | none => none)
          else none
        | _, _, _ => none
      | _ => none
    | _, _ => none
  | _ => none

theorem zeroCells_length (z : Array Value) (n : Nat) : (Builtin.zeroCells z n).toList.length = n * z.size := by simp [Builtin.zeroCells]

theorem conc_slice_of {i o n : Nat} {c : ACap} {l : Loc} (h : ρ i = some l) : conc ρ (.slice i o n c) = some (.slice (some ⟨l.b, l.base + o, none⟩) n (c.conc l)) := by simp only [conc, h]

theorem aappend_run (hE : E.Ok P) (hR : Rel B W G ρ H w) {ts : Array TypeId} {s x v : AV} {H' : AHeap} (h : aappend E H ts s x = some (v, H')) {s' x' : Value} (hs : conc ρ s = some s') (hx : conc ρ x = some x') (ty : TypeId) :
    ∃ ρ' w' v', (Builtin.append_ ts ty #[s', x']).run P w = .ok v' w' ∧ conc ρ' v = some v' ∧ Rel B W G ρ' H' w' ∧ ρ.ext H.next ρ' ∧ H.next ≤ H'.next := by
  unfold aappend at h
  split at h
  rotate_left
  · cases h
  rename_i t0 t1 hts
  split at h
  rotate_left
  · cases h
  rename_i i0 i1 ht0 ht1
  have hu := (hE.ty t0 i0 ht0).1
  have hux := (hE.ty t1 i1 ht1).1
  split at h
  rotate_left
  · cases h
  rename_i e hd
  rw [hd] at hu
  split at h
  rotate_left
  · cases h
  rename_i y n len hy hn hlen
  rcases bif_some h with ⟨c, h2⟩ | ⟨_, h2⟩
  rotate_left
  · cases h2
  clear h
  simp only [Bool.and_eq_true] at c
  obtain ⟨⟨⟨⟨c1, c2⟩, c3⟩, c4⟩, c5⟩ := c
  have c3 := ble_le c3
  have c4 := ble_le c4
  have c5 := Nat.eq_of_beq_eq_true c5
  split at h2
  rotate_left
  · cases h2
  rename_i new hnew
  obtain ⟨zv, hz, hzc⟩ := hE.zero hy
  obtain ⟨ti, i1', i2, i3⟩ := hE.info hy
  have hzl := concL_length (conc_cells (hzc ρ))
  simp only [Array.length_toList] at hzl
  have hzs : zv.cells.size = y.size := by omega
  obtain ⟨new', n1, n2, n3⟩ := acells_run (P := P) hR hnew hx
  obtain ⟨new2, m1, m2, m3⟩ := acells_run (P := P) hR.drew hnew hx
  have : new2 = new' := by rw [n1] at m1; exact (Option.some.inj m1).symm
  subst this
  have hln := concL_length n1
  -- a new row
  have hgrow : ∀ (base : Option Addr) (sLen sCap : Nat) (old' : List Value) (cs : List AV), sLen = len → sCap < sLen + n → (Builtin.firstCells y.size sLen (.slice base sLen sCap)).run P w.drew = .ok old'.toArray w.drew →
      ∃ c, sLen + n ≤ c ∧ (Builtin.append_ ts ty #[.slice base sLen sCap, x']).run P w = .ok (.slice (some ⟨w.heap.size, 0, none⟩) (sLen + n) c) (w.drew.alloc (.cells (old' ++ new2 ++ (Builtin.zeroCells zv.cells (c - (sLen + n))).toList).toArray e)) := by
    intro base sLen sCap old' cs hsl hgt hold
    subst hsl
    have := run_append_grow' (P := P) (w := w) hts hu hux c2 i1' hz base sLen sCap n x' (fun w => alenOf_run hn hx w) hgt (by rw [i3]; exact c3) c4 (old := old'.toArray) (new := new2.toArray) (by rw [i2]; exact hold) (by rw [i2]; exact m3) ty
    obtain ⟨c, k1, k2⟩ := this
    refine ⟨c, k1, k2.trans ?_⟩
    congr 3
    apply Array.ext'
    simp
  unfold aapp at h2
  split at h2
  · -- onto nil
    cases conc_nilslice hs
    simp only [alenOf, Option.some.injEq] at hlen
    subst hlen
    rcases bif_some h2 with ⟨k, h3⟩ | ⟨k, h3⟩
    · obtain rfl := Nat.eq_of_beq_eq_true k
      cases h3
      refine ⟨ρ, w, .slice none 0 0, ?_, rfl, hR, Ren.ext_refl _ _, Nat.le_refl _⟩
      exact run_append_fit hts hu hux c2 (fun w => hE.size hy w) none 0 0 0 x' (fun w => alenOf_run hn hx w) (by omega) n3 ty rfl
    · have hne : n ≠ 0 := fun h0 => by subst h0; cases k
      cases h3
      obtain ⟨c, k1, k2⟩ := hgrow none 0 0 [] [] rfl (by omega) rfl
      refine ⟨_, _, _, k2, ?_, hR.drew.newRow c1 (cs := new) n1 (Builtin.zeroCells zv.cells (c - (0 + n))).toList e y.size c true false [] 0 ?_ (fun _ => ?_) (fun k => by cases k), Ren.put_ext _ _ _, Nat.le_succ _⟩
      · rw [conc_slice_of (Ren.put_same _ _ _)]
        simp [ACap.conc]
      · rw [zeroCells_length, n2, hzs, ← Nat.add_mul]
        exact Nat.mul_le_mul_right _ (by omega)
      · rw [← hln, n2]; exact Nat.mul_le_mul_right _ (by omega)
  · -- capacity known
    rename_i i o sl cp
    obtain ⟨l, hl, rfl⟩ := conc_slice hs
    simp only [alenOf, Option.some.injEq] at hlen
    subst hlen
    rcases bif_some h2 with ⟨k, h3⟩ | ⟨k, h3⟩
    · cases h3
      simp only [Bool.and_eq_true] at k
      obtain rfl := Nat.eq_of_beq_eq_true k.1
      have k2 := ble_le k.2
      refine ⟨ρ, w, _, ?_, hs, hR, Ren.ext_refl _ _, Nat.le_refl _⟩
      have hnil : new2 = [] := by
        have : new2.length = 0 := by simpa using n2
        exact List.eq_nil_of_length_eq_zero this
      have := run_append_fit (P := P) (w := w) (w' := w) hts hu hux c2 (fun w => hE.size hy w) (some ⟨l.b, l.base + o, none⟩) sl cp 0 x' (fun w => alenOf_run hn hx w) (by omega) n3 ty (by rw [hnil]; rfl)
      simpa [ACap.conc] using this
    · rcases bif_some h3 with ⟨k2, h4⟩ | ⟨k2, h4⟩
      · have k2 := ble_le k2
        split at h4
        rotate_left
        · cases h4
        rename_i H2 hst
        cases h4
        obtain ⟨w', e1, e2, e3⟩ := hR.storeN (P := P) hl hst n1
        refine ⟨ρ, w', _, ?_, conc_slice_of hl, e2, Ren.ext_refl _ _, by rw [e3]; exact Nat.le_refl _⟩
        have := run_append_fit (P := P) (w := w) (w' := w') hts hu hux c2 (fun w => hE.size hy w) (some ⟨l.b, l.base + o, none⟩) sl cp n x' (fun w => alenOf_run hn hx w) (by omega) n3 ty
          (by show (storeCells ((⟨l.b, l.base + o, none⟩ : Addr).add (sl * y.size)) _).run P w = _; rw [addr_add, show l.base + o + sl * y.size = l.base + (o + sl * y.size) by omega]; exact e1)
        exact this
      · have k2 : ¬ sl + n ≤ cp := fun hle => by rw [Nat.ble_eq_true_of_le hle] at k2; cases k2
        split at h4
        rotate_left
        · cases h4
        rename_i old hold
        cases h4
        obtain ⟨old', o1, o2, o3⟩ := acells_run (P := P) hR.drew hold hs
        obtain ⟨c, q1, q2⟩ := hgrow (some ⟨l.b, l.base + o, none⟩) sl cp old' old rfl (by omega) o3
        refine ⟨_, _, _, q2, ?_, hR.drew.newRow c1 (cs := old ++ new) (concL_append o1 n1) (Builtin.zeroCells zv.cells (c - (sl + n))).toList e y.size c true false [] 0 ?_ (fun _ => ?_) (fun k => by cases k), Ren.put_ext _ _ _, Nat.le_succ _⟩
        · rw [conc_slice_of (Ren.put_same _ _ _)]
          simp [ACap.conc]
        · rw [zeroCells_length, List.length_append, n2, o2, hzs, ← Nat.add_mul, ← Nat.add_mul]
          exact Nat.mul_le_mul_right _ (by omega)
        · have := concL_length o1
          rw [List.length_append, ← hln, ← this, n2, o2, ← Nat.add_mul]; exact Nat.mul_le_mul_right _ q1
  · -- capacity not known
    rename_i i o sl eo
    obtain ⟨l, hl, rfl⟩ := conc_slice hs
    simp only [alenOf, Option.some.injEq] at hlen
    subst hlen
    rcases bif_some h2 with ⟨k, h3⟩ | ⟨_, h3⟩
    rotate_left
    · cases h3
    split at h3
    rotate_left
    · cases h3
    rename_i H2 hg
    cases h3
    -- what the row is
    have hrow : ∃ cs el s fz mkd st, H.get i = .row cs el s fz true mkd true false st := by
      unfold AHeap.grow at hg
      split at hg
      · rename_i cs el s fz mkd st hr; exact ⟨_, _, _, _, _, _, hr⟩
      · cases hg
    obtain ⟨cs, el, sz, fz, mkd, st, hr⟩ := hrow
    simp only [rowFits, hr, Bool.and_eq_true] at k
    obtain rfl := Nat.eq_of_beq_eq_true k.1
    obtain rfl := Nat.eq_of_beq_eq_true k.2
    by_cases hfit : sl + n ≤ l.C - eo
    · obtain ⟨w', e1, e2, e3⟩ := hR.grow (P := P) hl hg n1 (sz := y.size) (fun _ _ _ _ _ _ _ _ _ h' => by rw [hr] at h'; cases h'; rfl) (k := n) (by rw [← hln, n2]) hfit (roomy_lt c1)
      refine ⟨_, w', _, ?_, conc_slice_of (Ren.put_same _ _ _), e2, Ren.put_ext _ _ _, by rw [e3]; exact Nat.le_succ _⟩
      have := run_append_fit (P := P) (w := w) (w' := w') hts hu hux c2 (fun w => hE.size hy w) (some ⟨l.b, l.base + o, none⟩) sl (l.C - eo) n x' (fun w => alenOf_run hn hx w) hfit n3 ty
        (by show (storeCells ((⟨l.b, l.base + o, none⟩ : Addr).add (sl * y.size)) _).run P w = _; rw [addr_add]; exact e1)
      simpa [ACap.conc] using this
    · unfold AHeap.grow at hg
      rw [hr] at hg
      simp only at hg
      rcases bif_some hg with ⟨kk, hg2⟩ | ⟨_, hg2⟩
      rotate_left
      · cases hg2
      simp only [Bool.and_eq_true] at kk
      obtain ⟨⟨⟨q0, q1⟩, q2⟩, q3⟩ := kk
      have q1 := ble_le q1
      have q2 := ble_le q2
      have ho := hR.obj i l hl
      rw [hr] at ho
      obtain ⟨old', o1, o2, _, o3⟩ := hR.drew.loads (P := P) hl (by exact hr) o (sl * y.size) q1
      obtain ⟨c, p1, p2⟩ := hgrow (some ⟨l.b, l.base + o, none⟩) sl (l.C - eo) old' [] rfl (by omega) o3
      cases hg2
      obtain ⟨cc, fr, g1, g2, g3, g4, g5, g6, g7, g8⟩ := ho
      have hwk := hR.drew.weaken hl (by rw [hr]; rfl) (by rw [hr]; rfl) (o := .row (cs.take (o + sl * y.size)) el y.size fz true mkd false false [])
        ⟨cc, fr, g1, by simp; omega, g3, fun k v e => (by
          rw [List.getElem?_take] at e
          split at e
          · exact g4 k v e
          · cases e), g5, fun _ => (by have := g6 rfl; simp; omega), fun k => (by cases k), g8⟩ rfl st
      have hnext : ((H.set i (.row (cs.take (o + sl * y.size)) el y.size fz true mkd false false [])).kill st).next = H.next := by rw [AHeap.kill_next]; rfl
      have hroomy : ((H.set i (.row (cs.take (o + sl * y.size)) el y.size fz true mkd false false [])).kill st).roomy = true := by unfold AHeap.roomy; rw [hnext]; exact c1
      have hnr := hwk.newRow hroomy (cs := (cs.drop o).take (sl * y.size) ++ new) (concL_append o1 n1) (Builtin.zeroCells zv.cells (c - (sl + n))).toList el y.size c true mkd [i] (fz - o)
        (by
          rw [zeroCells_length, List.length_append, n2, o2, hzs, ← Nat.add_mul, ← Nat.add_mul]
          exact Nat.mul_le_mul_right _ (by omega))
        (fun _ => by
          have := concL_length o1
          rw [List.length_append, ← hln, ← this, n2, o2, ← Nat.add_mul]; exact Nat.mul_le_mul_right _ p1) (fun k => by cases k)
      refine ⟨_, _, _, p2, ?_, hnr, ?_, ?_⟩
      · rw [← hnext, conc_slice_of (Ren.put_same _ _ _)]
        simp [ACap.conc]
      · rw [hnext]; exact Ren.put_ext _ _ _
      · show H.next ≤ _ + 1
        rw [hnext]; exact Nat.le_succ _
  · cases h2

end Go.Am
/- An abstract machine for the model's code, part 14: copy, clear, bytes and strings. -/
namespace Go.Am
open Go Go.RowKit

variable {E : Env} {P : Program} {B : Nat} {W : World} {G : Nat} {ρ : Ren} {H : AHeap} {w : World}

def acopy (E : Env) (H : AHeap) (ts : Array TypeId) (d s : AV) : Option (AV × AHeap) :=
  match ts.toList with
  | t0 :: _ => match E.ty.get t0 with
    | some i0 => match i0.desc with
      | .slice e => match E.ty.get e, alenOf s, alenOf d with
        | some y, some n, some m => match acells H y.size (Nat.min n m) s with
          | some cs => match d with
            | .nilslice => some (.int .i64 (Nat.min n m), H)
            | .slice i o _ _ => bif Nat.beq (Nat.min n m * y.size) 0 then some (.int .i64 (Nat.min n m), H) else (match H.storeN i o cs with
              | some H' => some (.int .i64 (Nat.min n m), H')
              | none => none)
            | _ => none
          | none => none
        | _, _, _ => none
      | _ => none
    | none => none
  | [] => none

theorem acopy_run (hE : E.Ok P) (hR : Rel B W G ρ H w) {ts : Array TypeId} {d s v : AV} {H' : AHeap} (h : acopy E H ts d s = some (v, H')) {d' s' : Value} (hd : conc ρ d = some d') (hs : conc ρ s = some s') (ty : TypeId) :
    ∃ ρ' w' v', (Builtin.copy_ ts ty #[d', s']).run P w = .ok v' w' ∧ conc ρ' v = some v' ∧ Rel B W G ρ' H' w' ∧ ρ.ext H.next ρ' ∧ H.next ≤ H'.next := by
  unfold acopy at h
  split at h
  rotate_left
  · cases h
  rename_i t0 tl hts
  split at h
  rotate_left
  · cases h
  rename_i i0 ht0
  have hu := (hE.ty t0 i0 ht0).1
  split at h
  rotate_left
  · cases h
  rename_i e hdd
  rw [hdd] at hu
  split at h
  rotate_left
  · cases h
  rename_i y n m hy hn hm
  split at h
  rotate_left
  · cases h
  rename_i cs hcs
  obtain ⟨vs, a1, a2, a3⟩ := acells_run (P := P) hR hcs hs
  have h0 : ts[0]? = some t0 := by rw [← Array.getElem?_toList, hts]; rfl
  have h2 : (#[d', s'] : Array Value)[0]? = some d' := rfl
  have h3 : (#[d', s'] : Array Value)[1]? = some s' := rfl
  split at h
  · cases h; cases conc_nilslice hd
    simp only [alenOf, Option.some.injEq] at hm
    subst hm
    refine ⟨ρ, w, _, ?_, rfl, hR, Ren.ext_refl _ _, Nat.le_refl _⟩
    simp only [Builtin.copy_, h0, h2, h3, Sem.run_bind, run_underlying hu, Result.andThen_ok, alenOf_run hn hs w, hE.size hy w, a3]
    rfl
  · rename_i i o sl cp
    obtain ⟨l, hl, rfl⟩ := conc_slice hd
    simp only [alenOf, Option.some.injEq] at hm
    subst hm
    rcases bif_some h with ⟨c, h4⟩ | ⟨_, h4⟩
    · cases h4
      have c : Nat.min n sl * y.size = 0 := Nat.eq_of_beq_eq_true c
      have hnil : vs = [] := List.eq_nil_of_length_eq_zero (by rw [a2, c])
      refine ⟨ρ, w, _, ?_, rfl, hR, Ren.ext_refl _ _, Nat.le_refl _⟩
      simp only [Builtin.copy_, h0, h2, h3, Sem.run_bind, run_underlying hu, Result.andThen_ok, alenOf_run hn hs w, hE.size hy w, a3]
      rw [hnil]
      rfl
    · split at h4
      rotate_left
      · cases h4
      rename_i H2 hst
      cases h4
      obtain ⟨w', e1, e2, e3⟩ := hR.storeN (P := P) hl hst a1
      refine ⟨ρ, w', _, ?_, rfl, e2, Ren.ext_refl _ _, by rw [e3]; exact Nat.le_refl _⟩
      simp only [Builtin.copy_, h0, h2, h3, Sem.run_bind, run_underlying hu, Result.andThen_ok, alenOf_run hn hs w, hE.size hy w, a3, e1]
      rfl
  · cases h

/-- clear of a slice. -/
def aclear (E : Env) (H : AHeap) (ts : Array TypeId) (s : AV) : Option AHeap :=
  match ts.toList with
  | t0 :: _ => match E.ty.get t0 with
    | some i0 => match i0.desc with
      | .slice e => match s with
        | .nilslice => some H
        | .slice i o n _ => bif Nat.beq n 0 then some H else match E.ty.get e with
          | some y => H.storeN i o (azeros n y.zero.cells)
          | none => none
        | _ => none
      | _ => none
    | none => none
  | [] => none

theorem zeroCells_eq (z : Array Value) (n : Nat) : (Builtin.zeroCells z n).toList = (List.replicate n z.toList).flatten := by
  simp only [Builtin.zeroCells]
  rw [range_zero]

theorem aclear_run (hE : E.Ok P) (hR : Rel B W G ρ H w) {ts : Array TypeId} {s : AV} {H' : AHeap} (h : aclear E H ts s = some H') {s' : Value} (hs : conc ρ s = some s') (ty : TypeId) :
    ∃ w', (Builtin.clear_ ts ty #[s']).run P w = .ok (.tuple #[]) w' ∧ Rel B W G ρ H' w' ∧ H'.next = H.next := by
  unfold aclear at h
  split at h
  rotate_left
  · cases h
  rename_i t0 tl hts
  split at h
  rotate_left
  · cases h
  rename_i i0 ht0
  have hu := (hE.ty t0 i0 ht0).1
  split at h
  rotate_left
  · cases h
  rename_i e hdd
  rw [hdd] at hu
  have h0 : ts[0]? = some t0 := by rw [← Array.getElem?_toList, hts]; rfl
  have h2 : (#[s'] : Array Value)[0]? = some s' := rfl
  split at h
  · cases h; cases conc_nilslice hs
    exact ⟨w, by simp only [Builtin.clear_, h0, h2, Sem.run_bind, run_underlying hu, Result.andThen_ok]; rfl, hR, rfl⟩
  · rename_i i o n cp
    obtain ⟨l, hl, rfl⟩ := conc_slice hs
    rcases bif_some h with ⟨c, h4⟩ | ⟨c, h4⟩
    · cases h4
      obtain rfl := Nat.eq_of_beq_eq_true c
      exact ⟨w, by simp only [Builtin.clear_, h0, h2, Sem.run_bind, run_underlying hu, Result.andThen_ok]; rfl, hR, rfl⟩
    · split at h4
      rotate_left
      · cases h4
      rename_i y hy
      obtain ⟨zv, hz, hzc⟩ := hE.zero hy
      obtain ⟨w', e1, e2, e3⟩ := hR.storeN (P := P) hl h4 (azeros_conc (conc_cells (hzc ρ)) n)
      refine ⟨w', ?_, e2, e3⟩
      obtain ⟨k, rfl⟩ : ∃ k, n = k + 1 := by
        cases n with
        | zero => cases c
        | succ k => exact ⟨k, rfl⟩
      simp only [Builtin.clear_, h0, h2, Sem.run_bind, run_underlying hu, Result.andThen_ok]
      simp only [hz, Result.andThen_ok, zeroCells_eq, e1, Sem.run_pure]
  · cases h

/-- Bytes out of a string: a new row. -/
def aofString (E : Env) (H : AHeap) (dst : TypeId) (s : List UInt8) : Option (AV × AHeap) :=
  match E.ty.get dst with
  | some i => match i.desc with
    | .slice e => match E.ty.get e with
      | some y => match y.desc with
        | .int .u8 => bif H.roomy then some (.slice H.next 0 s.length (.rest 0), H.push (.row (s.map fun b => .int .u8 (b.toNat : Int)) e 1 0 true true true false [])) else none
        | _ => none
      | none => none
    | _ => none
  | none => none

theorem alloc_freeze (w : World) (c : Array Value) (e : TypeId) : (w.alloc (.cells c e)).freeze { block := w.heap.size, off := c.size } 1 = w.alloc (.cells c e (c.size, c.size + 1)) := by
  have h1 : ∀ f : Obj → Obj, (w.heap.push (.cells c e)).modify w.heap.size f = w.heap.push (f (.cells c e)) := by
    intro f
    apply Array.ext_getElem?
    intro k
    rw [Array.getElem?_modify]
    by_cases hk : w.heap.size = k
    · subst hk; rw [if_pos rfl]; simp
    · rw [if_neg hk, Array.getElem?_push, Array.getElem?_push, if_neg (Ne.symm hk), if_neg (Ne.symm hk)]
  show World.freeze { w with heap := w.heap.push (.cells c e) } _ 1 = { w with heap := w.heap.push _ }
  simp only [World.freeze, h1]
  simp

theorem aofString_run (hE : E.Ok P) (hR : Rel B W G ρ H w) {src dst : TypeId} {si : TyI} (hsrc : E.ty.get src = some si) (hsd : si.desc = .string) {s : List UInt8} {v : AV} {H' : AHeap} (h : aofString E H dst s = some (v, H')) :
    ∃ ρ' w' v', (convert src dst (.string ⟨s.toArray⟩)).run P w = .ok v' w' ∧ conc ρ' v = some v' ∧ Rel B W G ρ' H' w' ∧ ρ.ext H.next ρ' ∧ H.next ≤ H'.next := by
  have hus := (hE.ty src si hsrc).1
  rw [hsd] at hus
  unfold aofString at h
  split at h
  rotate_left
  · cases h
  rename_i i hi
  have hud := (hE.ty dst i hi).1
  split at h
  rotate_left
  · cases h
  rename_i e hdd
  rw [hdd] at hud
  split at h
  rotate_left
  · cases h
  rename_i y hy
  have hue := (hE.ty e y hy).1
  split at h
  rotate_left
  · cases h
  rename_i hyd
  rw [hyd] at hue
  rcases bif_some h with ⟨c, h4⟩ | ⟨_, h4⟩
  rotate_left
  · cases h4
  cases h4
  let q : Question := .appendCap s.length 0 e
  let cap := q.cut (w.tape w.drawn q)
  have hcap : s.length ≤ cap := Nat.le_add_right _ _
  let cells : Array Value := (s.map fun b => Value.int .u8 (b.toNat : Int)).toArray ++ Array.replicate (cap - s.length) (.int .u8 0)
  have hcs : cells.size = cap := by simp [cells]; omega
  have hle : ρ.le (ρ.put H.next ⟨w.drew.heap.size, 0, cap⟩) := hR.le (Ren.put_ext _ _ _)
  have hrel := hR.drew.new (o := .row (s.map fun b => .int .u8 (b.toNat : Int)) e 1 0 true true true false []) (ob := .cells cells e (cells.size, cells.size + 1)) (C := cap) (roomy_lt c)
    ⟨cells, (cells.size, cells.size + 1), alloc_new _ _, (by simp [hcs]; exact hcap), (by simp [hcs]), fun k v e => (by
      obtain ⟨v', a, b⟩ := concL_get (conc_bytes (ρ := ρ) s) k v e
      refine ⟨v', conc_mono hle _ _ b, ?_⟩
      have hk : k < s.length := by
        rcases Nat.lt_or_ge k s.length with h' | h'
        · exact h'
        · rw [List.getElem?_eq_none (by simpa using h')] at a; cases a
      show cells[0 + k]? = _
      rw [Nat.zero_add]
      simp only [cells]
      rw [Array.getElem?_append_left (by simpa using hk)]
      simpa using a), fun k _ b => (by
      have b : 0 + k < cells.size := b
      simp only [World.frozen?, alloc_new]
      simp; omega), fun _ => (by simpa using hcap), fun k => (by cases k), fun k => (by cases k)⟩
  refine ⟨_, _, .slice (some ⟨w.heap.size, 0, none⟩) s.length cap, ?_, ?_, hrel, Ren.put_ext _ _ _, Nat.le_succ _⟩
  · simp only [convert, Sem.run_bind, run_underlying hus, Result.andThen_ok, run_underlying hud, run_underlying hue, Conv.stringToBytes]
    simp only [run_choose_drew, Question.forced, Bool.false_eq_true, if_false, Result.andThen_ok]
    have hcells : (Array.map (fun (b : UInt8) => Value.int IntKind.u8 (b.toNat : Int)) (⟨s.toArray⟩ : ByteArray).data ++ Array.replicate (Question.cut (.appendCap (⟨s.toArray⟩ : ByteArray).size 0 e) (w.tape w.drawn (.appendCap (⟨s.toArray⟩ : ByteArray).size 0 e)) - (⟨s.toArray⟩ : ByteArray).size) (Value.int IntKind.u8 0)) = cells := by
      simp [cells, cap, q, ByteArray.size]
    rw [hcells]
    simp only [newRow, Sem.run_bind, run_newObj_alloc, Result.andThen_ok, Sem.run_pure, markStringish]
    have hsh : (w.drew.alloc (.cells cells e)).shape? w.drew.heap.size = some (e, cells.size) := by simp only [World.shape?, alloc_new]
    simp only [run_shape, Result.andThen_ok, hsh, run_freeze, alloc_freeze]
    simp [cap, q, ByteArray.size]
  · rw [conc_slice_of (Ren.put_same _ _ _)]
    simp [ACap.conc]

end Go.Am
/- An abstract machine for the model's code, part 15: maps, ranges, strings out of bytes that are shared. -/
namespace Go.Am
open Go Go.RowKit

variable {E : Env} {P : Program} {B : Nat} {W : World} {G : Nat} {ρ : Ren} {H : AHeap} {w : World}

/-- A string over a row's bytes. -/
def aunsafeString (E : Env) (H : AHeap) (ts : Array TypeId) (p n : AV) : Option (AV × AHeap) :=
  match ts.toList, natOf n with
  | t0 :: _, some k => bif Nat.ble k 1099511627776 then (match p with
    | .nilptr => bif Nat.beq k 0 then some (.str [], H) else none
    | .ptr i o => bif Nat.beq k 0 then some (.str [], H) else match E.ty.get t0, H.get i with
      | some i0, .row cs el sz fz gr false true false st => match i0.desc with
        | .pointer u => match E.ty.get u with
          | some y => bif Nat.beq el u && Nat.beq y.size 1 && Nat.ble (o + k) cs.length then
              (match abytes ((cs.drop o).take k) with
                | some s => some (.str s, (H.set i (.row cs el sz (Nat.max fz (o + k)) gr false true false [])).kill st)
                | none => none)
            else none
          | none => none
        | _ => none
      | _, _ => none
    | _ => none) else none
  | _, _ => none

theorem run_loadBytes (a : Addr) : ∀ (n : Nat) (acc : ByteArray) (ns : List Int), ns.length = n → (∀ (j : Nat) (v : Value), (ns.map (Value.int .u8))[j]? = some v → w.cell? (a.add j) = some v) →
    (loadBytes a acc n).run P w = .ok (ns.foldl (fun (r : ByteArray) (n : Int) => r.push (UInt8.ofNat n.toNat)) acc) w := by
  intro n
  induction n generalizing a with
  | zero => intro acc ns hl _; obtain rfl := List.eq_nil_of_length_eq_zero hl; rfl
  | succ n ih =>
    intro acc ns hl hc
    cases ns with
    | nil => cases hl
    | cons m ns =>
      have h0 := hc 0 (.int .u8 m) rfl
      have ha : a.add 0 = a := by simp [Addr.add]
      rw [ha] at h0
      have hrec := ih (a.add 1) (acc.push (UInt8.ofNat m.toNat)) ns (by simpa using hl) (fun j v e => by
        have := hc (j + 1) v (by simpa using e)
        have hadd : (a.add 1).add j = a.add (j + 1) := by
          simp only [Addr.add]
          by_cases hj : j = 0
          · subst hj; simp
          · simp [hj]; omega
        rw [hadd]; exact this)
      simp only [loadBytes, Sem.run_bind, run_load_some P w a _ h0, Result.andThen_ok, List.foldl_cons]
      exact hrec

theorem rowAt_self {u : TypeId} {d n o : Nat} (hs : P.cellsOf u = 1) {m : Nat} (h : o + m ≤ n) : rowAt P (sameLayout P (d + 1) · u) (d + 1) u n o m = true := by
  unfold rowAt
  rw [hs]
  simp only [Nat.one_ne_zero, if_false, Nat.div_one, Nat.mod_one, beq_self_eq_true, Bool.true_and]
  have h1 : decide (o + m ≤ n) = true := by simpa using h
  have h2 : sameLayout P (d + 1) u u = true := by unfold sameLayout; simp
  rw [h1, h2]
  rfl

/-- unsafe.String over bytes that are there; of no byte. (The two ways through the model's function, opened as the library's own laws open it.) -/
theorem run_uString_some {ts : Array TypeId} {t0 el : TypeId} (h0 : ts[0]? = some t0) (hel : (elemOf t0).run P w = .ok el w) (a : Addr) (kd : IntKind) {k : Nat} (hk : k ≠ 0) (hk2 : k ≤ 1099511627776)
    (hva : (variablesAt a el k).run P w = .ok true w) {s : ByteArray} (hlb : (loadBytes a .empty k).run P w = .ok s w) (ty : TypeId) :
    (Builtin.unsafeString_ ts ty #[.pointer (some a), .int kd (k : Int)]).run P w = .ok (.string s) (w.freeze a k) := by
  have hdef : Builtin.unsafeString_ ts ty #[.pointer (some a), .int kd (k : Int)] =
      (do
        let n ← asInt (.int kd (k : Int))
        let some pt := ts[0]? | stuck "unsafe.String: no argument types"
        if n < 0 then runtimePanic (.error "unsafe.String: len out of range")
        if n > IntKind.i64.max then unsupported (.unsafePointer "String: a length above the largest int")
        if n = 0 then pure (.string .empty)
        else if ← variablesAt a (← elemOf pt) n.toNat then do
          let s ← loadBytes a .empty n.toNat
          freeze a n.toNat
          pure (.string s)
        else unsupported (.unsafePointer "String: not so many bytes at ptr")) := rfl
  rw [hdef]
  have e1 : ¬ ((k : Int) < 0) := by omega
  have e2 : ¬ ((k : Int) > IntKind.i64.max) := by
    have e : IntKind.i64.max = 9223372036854775807 := by decide
    rw [e]; omega
  simp only [h0]
  simp only [asInt, asIntOf, Sem.run_bind, Sem.run_pure, Result.andThen_ok, if_neg e1, if_neg e2]
  rw [if_neg (by omega)]
  simp only [Sem.run_bind, hel, Result.andThen_ok, Int.toNat_natCast, hva, if_true, hlb, run_freeze, Sem.run_pure]

theorem run_uString_none {ts : Array TypeId} {t0 : TypeId} (h0 : ts[0]? = some t0) (p : Option Addr) (kd : IntKind) (ty : TypeId) (w : World) :
    (Builtin.unsafeString_ ts ty #[.pointer p, .int kd 0]).run P w = .ok (.string .empty) w := by
  have e2 : ¬ ((0 : Int) > IntKind.i64.max) := by decide
  cases p with
  | none =>
    have hdef : Builtin.unsafeString_ ts ty #[.pointer none, .int kd 0] =
        (do
          let n ← asInt (.int kd 0)
          let some _ := ts[0]? | stuck "unsafe.String: no argument types"
          if n < 0 then runtimePanic (.error "unsafe.String: len out of range")
          if n > IntKind.i64.max then unsupported (.unsafePointer "String: a length above the largest int")
          if n = 0 then pure (.string .empty)
          else runtimePanic (.error "unsafe.String: ptr is nil and len is not zero")) := rfl
    rw [hdef]
    simp only [h0]
    simp [asInt, asIntOf]
  | some a =>
    have hdef : Builtin.unsafeString_ ts ty #[.pointer (some a), .int kd 0] =
        (do
          let n ← asInt (.int kd 0)
          let some pt := ts[0]? | stuck "unsafe.String: no argument types"
          if n < 0 then runtimePanic (.error "unsafe.String: len out of range")
          if n > IntKind.i64.max then unsupported (.unsafePointer "String: a length above the largest int")
          if n = 0 then pure (.string .empty)
          else if ← variablesAt a (← elemOf pt) n.toNat then do
            let s ← loadBytes a .empty n.toNat
            freeze a n.toNat
            pure (.string s)
          else unsupported (.unsafePointer "String: not so many bytes at ptr")) := rfl
    rw [hdef]
    simp only [h0]
    simp [asInt, asIntOf]

theorem aunsafeString_run (hE : E.Ok P) (hR : Rel B W G ρ H w) {ts : Array TypeId} {p n v : AV} {H' : AHeap} (h : aunsafeString E H ts p n = some (v, H')) {p' n' : Value} (hp : conc ρ p = some p') (hn : conc ρ n = some n') (ty : TypeId) :
    ∃ ρ' w' v', (Builtin.unsafeString_ ts ty #[p', n']).run P w = .ok v' w' ∧ conc ρ' v = some v' ∧ Rel B W G ρ' H' w' ∧ ρ.ext H.next ρ' ∧ H.next ≤ H'.next := by
  unfold aunsafeString at h
  split at h
  rotate_left
  · cases h
  rename_i t0 tl k hts hk
  have h0 : ts[0]? = some t0 := by rw [← Array.getElem?_toList, hts]; rfl
  obtain ⟨kd, rfl⟩ := natOf_conc hk hn
  rcases bif_some h with ⟨c0, h1⟩ | ⟨_, h1⟩
  rotate_left
  · cases h1
  clear h
  have c0 := ble_le c0
  split at h1
  · cases conc_nilptr hp
    rcases bif_some h1 with ⟨c, h2⟩ | ⟨_, h2⟩
    rotate_left
    · cases h2
    obtain rfl := Nat.eq_of_beq_eq_true c
    cases h2
    refine ⟨ρ, w, _, ?_, rfl, hR, Ren.ext_refl _ _, Nat.le_refl _⟩
    exact run_uString_none h0 none kd ty w
  · rename_i i o
    obtain ⟨l, hl, rfl⟩ := conc_ptr hp
    rcases bif_some h1 with ⟨c, h2⟩ | ⟨c, h2⟩
    · obtain rfl := Nat.eq_of_beq_eq_true c
      cases h2
      refine ⟨ρ, w, _, ?_, rfl, hR, Ren.ext_refl _ _, Nat.le_refl _⟩
      exact run_uString_none h0 _ kd ty w
    · have hk0 : k ≠ 0 := fun h0 => by subst h0; cases c
      split at h2
      rotate_left
      · cases h2
      rename_i i0 cs el sz fz gr st ht0 hr
      have hu := (hE.ty t0 i0 ht0).1
      split at h2
      rotate_left
      · cases h2
      rename_i u hd
      rw [hd] at hu
      split at h2
      rotate_left
      · cases h2
      rename_i y hy
      rcases bif_some h2 with ⟨cc, h3⟩ | ⟨_, h3⟩
      rotate_left
      · cases h3
      simp only [Bool.and_eq_true] at cc
      obtain ⟨⟨d1, d2⟩, d3⟩ := cc
      obtain rfl := Nat.eq_of_beq_eq_true d1
      have d2 := Nat.eq_of_beq_eq_true d2
      have d3 := ble_le d3
      split at h3
      rotate_left
      · cases h3
      rename_i s hs
      cases h3
      obtain ⟨vs', a1, a2, a3, _⟩ := hR.loads (P := P) hl hr o k d3
      obtain ⟨ns, rfl, rfl⟩ := abytes_conc hs a1
      have ho := hR.obj i l hl
      rw [hr] at ho
      obtain ⟨cc, fr, g1, g2, g3, g4, g5, g6, g7, g8⟩ := ho
      obtain ⟨ti, i1, i2, i3⟩ := hE.info hy
      have hco : P.cellsOf el = 1 := by simp [Program.cellsOf, i1, i2, d2]
      have hva : (variablesAt ⟨l.b, l.base + o, none⟩ el k).run P w = .ok true w := by
        simp only [variablesAt, Sem.run_bind, run_program, Result.andThen_ok, run_shape, World.shape?, g1, hco, Nat.div_one, Sem.run_pure]
        have : P.depth = (2 * (P.types.size + Made.depth) + 1) + 1 := rfl
        rw [this]
        unfold liesAt
        rw [this, rowAt_self hco (by omega)]
        rfl
      have hlb := run_loadBytes (P := P) (w := w) ⟨l.b, l.base + o, none⟩ k .empty ns (by simpa using a2) a3
      have hb := hR.at_ i l hl
      have hfw : ∃ fr', (w.freeze ⟨l.b, l.base + o, none⟩ k) = World.setBlk w l.b (.cells cc el fr') ∧ (∀ q, Nat.max fz (o + k) ≤ q → l.base + q < cc.size → ¬ (fr'.1 ≤ l.base + q ∧ l.base + q < fr'.2)) ∧ (fr'.1 = fr'.2 ∨ fr'.2 ≤ l.base + Nat.max fz (o + k)) := by
        obtain ⟨lo, hi⟩ := fr
        refine ⟨if lo == hi then (l.base + o, l.base + o + k) else (min lo (l.base + o), max hi (l.base + o + k)), ?_, ?_, ?_⟩
        · simp only [World.freeze, hk0, if_false, World.setBlk]
          congr 1
          apply Array.ext_getElem?
          intro j
          rw [Array.getElem?_modify]
          by_cases hj : l.b = j
          · subst hj; rw [if_pos rfl, g1, Array.getElem?_setIfInBounds_self_of_lt hb]; rfl
          · rw [if_neg hj, Array.getElem?_setIfInBounds_ne hj]
        · intro q hq hq2
          have hq' : o + k ≤ q ∧ fz ≤ q := ⟨Nat.le_trans (Nat.le_max_right _ _) hq, Nat.le_trans (Nat.le_max_left _ _) hq⟩
          have hh := g8 rfl
          simp only at hh
          by_cases hlh : lo = hi
          · subst hlh; simp; omega
          · have hne : (lo == hi) = false := by simpa using hlh
            rw [hne]
            simp only [Bool.false_eq_true, if_false]
            omega
        · have hh := g8 rfl
          simp only at hh
          have hm1 : o + k ≤ Nat.max fz (o + k) := Nat.le_max_right _ _
          have hm2 : fz ≤ Nat.max fz (o + k) := Nat.le_max_left _ _
          by_cases hlh : lo = hi
          · subst hlh; simp; omega
          · have hne : (lo == hi) = false := by simpa using hlh
            rw [hne]
            simp only [Bool.false_eq_true, if_false]
            omega
      obtain ⟨fr', f1, f2, f3⟩ := hfw
      have hst : st = (H.get i).stale := by rw [hr]; rfl
      refine ⟨ρ, w.freeze ⟨l.b, l.base + o, none⟩ k, .string (ns.foldl (fun (r : ByteArray) (n : Int) => r.push (UInt8.ofNat n.toNat)) .empty), ?_, ?_, ?_, Ren.ext_refl _ _, by rw [AHeap.kill_next]; exact Nat.le_refl _⟩
      · have hel : (elemOf t0).run P w = .ok el w := by simp [elemOf, run_underlying hu]
        exact run_uString_some h0 hel _ kd hk0 c0 hva hlb ty
      · have := foldl_push ns []
        simp only [List.nil_append] at this
        simp only [conc]
        rw [← this]
        rfl
      · rw [f1, hst]
        refine hR.upd (w' := World.setBlk w l.b (.cells cc el fr')) hl (by rw [hr]; rfl) (by rw [hr]; rfl) (by rw [hr]; rfl) rfl rfl rfl (setBlk_size _ _ _) (fun k hk => setBlk_other _ _ _ _ hk) ?_
        refine ⟨cc, fr', setBlk_same _ _ _ hb, g2, g3, g4, fun q a b => ?_, g6, g7, fun _ => f3⟩
        simp only [World.frozen?, setBlk_same _ _ _ hb]
        have := f2 q a b
        simpa using this
  · cases h1

end Go.Am
