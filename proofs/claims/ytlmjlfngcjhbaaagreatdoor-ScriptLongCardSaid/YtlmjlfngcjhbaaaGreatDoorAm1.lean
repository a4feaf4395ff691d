/- An abstract machine for the model's code: it runs the code on abstract values; what it answers, the model answers. No condition of its own. -/
import Derived.Calls
import Derived.Defers
import Derived.Orders
import Derived.Below
import Derived.KernelRfl
import Derived.Laws.Cells
import Derived.WalkKit
import Derived.Laws.Strings
import Derived.Laws.Strings2
set_option linter.unusedSimpArgs false
set_option linter.unusedVariables false
set_option linter.unnecessarySimpa false
/- An abstract machine for the model's code, part 1: abstract values (blocks renamed, capacities unknown), abstract memory, how both stand for the model's. -/
namespace Go.Am
open Go Go.RowKit

/-- A tree of places, by numbers. -/
inductive T (α : Type) where
  | e
  | n (l : T α) (v : Option α) (r : T α)

namespace T
def get {α : Type} : T α → Nat → Option α
  | .e, _ => none
  | .n l v r, k => bif Nat.beq k 0 then v else bif Nat.beq (Nat.mod k 2) 1 then get l (Nat.div k 2) else get r (Nat.sub (Nat.div k 2) 1)

def set {α : Type} : Nat → T α → Nat → α → T α
  | 0, t, _, _ => t
  | d + 1, .e, k, x => bif Nat.beq k 0 then .n .e (some x) .e else bif Nat.beq (Nat.mod k 2) 1 then .n (set d .e (Nat.div k 2) x) none .e else .n .e none (set d .e (Nat.sub (Nat.div k 2) 1) x)
  | d + 1, .n l v r, k, x => bif Nat.beq k 0 then .n l (some x) r else bif Nat.beq (Nat.mod k 2) 1 then .n (set d l (Nat.div k 2) x) v r else .n l v (set d r (Nat.sub (Nat.div k 2) 1) x)

theorem beqf {a b : Nat} (h : a ≠ b) : Nat.beq a b = false := Bool.eq_false_iff.2 fun e => h (Nat.eq_of_beq_eq_true e)
theorem beqt {a b : Nat} (h : a = b) : Nat.beq a b = true := h ▸ Nat.beq_refl a

theorem get_set_same {α : Type} : ∀ (d : Nat) (t : T α) (k : Nat) (x : α), k + 1 < 2 ^ d → (set d t k x).get k = some x := by
  intro d
  induction d with
  | zero => intro t k x h; simp at h
  | succ d ih =>
    intro t k x hk
    have h2 : 2 ^ (d + 1) = 2 * 2 ^ d := by rw [Nat.pow_succ, Nat.mul_comm]
    by_cases h0 : k = 0
    · subst h0; cases t <;> simp [set, get]
    · have hb0 := beqf h0
      by_cases h1 : k % 2 = 1
      · have hb1 : Nat.beq (Nat.mod k 2) 1 = true := beqt h1
        have hlt : Nat.div k 2 + 1 < 2 ^ d := by show k / 2 + 1 < _; omega
        cases t <;> simp only [set, get, hb0, hb1, cond_true, cond_false] <;> exact ih _ _ _ hlt
      · have hb1 : Nat.beq (Nat.mod k 2) 1 = false := beqf h1
        have hlt : Nat.sub (Nat.div k 2) 1 + 1 < 2 ^ d := by show k / 2 - 1 + 1 < _; omega
        cases t <;> simp only [set, get, hb0, hb1, cond_false] <;> exact ih _ _ _ hlt

theorem get_set_ne {α : Type} : ∀ (d : Nat) (t : T α) (k j : Nat) (x : α), j ≠ k → (set d t k x).get j = t.get j := by
  intro d
  induction d with
  | zero => intro t k j x _; rfl
  | succ d ih =>
    intro t k j x hj
    by_cases h0 : k = 0
    · subst h0
      have hj0 := beqf hj
      cases t <;> simp [set, get, hj0]
    · have hb0 := beqf h0
      by_cases h1 : k % 2 = 1
      · have hb1 : Nat.beq (Nat.mod k 2) 1 = true := beqt h1
        by_cases hj0 : j = 0
        · subst hj0; cases t <;> simp [set, get, hb0, hb1]
        · have hbj0 := beqf hj0
          by_cases hj1 : j % 2 = 1
          · have hbj1 : Nat.beq (Nat.mod j 2) 1 = true := beqt hj1
            have hne : Nat.div j 2 ≠ Nat.div k 2 := by show j / 2 ≠ k / 2; omega
            cases t <;> simp only [set, get, hb0, hb1, hbj0, hbj1, cond_true, cond_false, ih _ _ _ _ hne]
          · have hbj1 : Nat.beq (Nat.mod j 2) 1 = false := beqf hj1
            cases t <;> simp only [set, get, hb0, hb1, hbj0, hbj1, cond_true, cond_false]
      · have hb1 : Nat.beq (Nat.mod k 2) 1 = false := beqf h1
        by_cases hj0 : j = 0
        · subst hj0; cases t <;> simp [set, get, hb0, hb1]
        · have hbj0 := beqf hj0
          by_cases hj1 : j % 2 = 1
          · have hbj1 : Nat.beq (Nat.mod j 2) 1 = true := beqt hj1
            cases t <;> simp only [set, get, hb0, hb1, hbj0, hbj1, cond_true, cond_false]
          · have hbj1 : Nat.beq (Nat.mod j 2) 1 = false := beqf hj1
            have hne : Nat.sub (Nat.div j 2) 1 ≠ Nat.sub (Nat.div k 2) 1 := by show j / 2 - 1 ≠ k / 2 - 1; omega
            cases t <;> simp only [set, get, hb0, hb1, hbj0, hbj1, cond_false, ih _ _ _ _ hne]
end T

/-- The depth of all trees: numbers below 2 ^ 24. -/
def deep : Nat := 24

/-- What is known of a slice's capacity: a number, or: what is left of its row behind so many elements. -/
inductive ACap where
  | known (c : Nat)
  | rest (eo : Nat)
  deriving DecidableEq

/-- Abstract values. -/
inductive AV where
  | bool (b : Bool)
  | int (k : IntKind) (n : Int)
  | str (s : List UInt8)
  | nilptr
  | ptr (i o : Nat)
  | nilslice
  | slice (i o len : Nat) (cap : ACap)
  | sl0 (i o1 o2 eo : Nat)
  | nilmap
  | map (i : Nat)
  | func (fn : Fn) (first captured : List AV)
  | yield (l : Nat)
  | nilfunc
  | iface (t : TypeId) (v : AV)
  | niliface
  | agg (cs : List AV)
  | tuple (vs : List AV)

/-- Where an abstract block lies: in which block, from which cell on, with how many elements at most. -/
structure Loc where
  b : Nat
  base : Nat
  C : Nat

abbrev Ren := Nat → Option Loc

def ACap.conc (l : Loc) : ACap → Nat
  | .known c => c
  | .rest eo => l.C - eo

mutual
/-- What an abstract value stands for. -/
def conc (ρ : Ren) : AV → Option Value
  | .bool b => some (.bool b)
  | .int k n => some (.int k n)
  | .str s => some (.string ⟨s.toArray⟩)
  | .nilptr => some (.pointer none)
  | .ptr i o => match ρ i with
    | some l => some (.pointer (some ⟨l.b, l.base + o, none⟩))
    | none => none
  | .nilslice => some (.slice none 0 0)
  | .slice i o len cap => match ρ i with
    | some l => some (.slice (some ⟨l.b, l.base + o, none⟩) len (cap.conc l))
    | none => none
  | .sl0 i o1 o2 eo => match ρ i with
    | some l => some (.slice (some ⟨l.b, l.base + (bif Nat.beq (l.C - eo) 0 then o1 else o2), none⟩) 0 (l.C - eo))
    | none => none
  | .nilmap => some (.map none)
  | .map i => match ρ i with
    | some l => some (.map (some l.b))
    | none => none
  | .func fn f c => match concL ρ f, concL ρ c with
    | some f', some c' => some (.func fn f'.toArray c'.toArray)
    | _, _ => none
  | .yield i => match ρ i with
    | some l => some (.func (.yield l.b) #[] #[])
    | none => none
  | .nilfunc => some .nilFunc
  | .iface t v => match conc ρ v with
    | some v' => some (.iface t v')
    | none => none
  | .niliface => some .nilIface
  | .agg cs => match concL ρ cs with
    | some cs' => some (.agg cs'.toArray)
    | none => none
  | .tuple vs => match concL ρ vs with
    | some vs' => some (.tuple vs'.toArray)
    | none => none
def concL (ρ : Ren) : List AV → Option (List Value)
  | [] => some []
  | v :: vs => match conc ρ v, concL ρ vs with
    | some a, some b => some (a :: b)
    | _, _ => none
end

def Ren.le (ρ ρ' : Ren) : Prop := ∀ i l, ρ i = some l → ρ' i = some l

theorem Ren.le_refl (ρ : Ren) : ρ.le ρ := fun _ _ h => h
theorem Ren.le_trans {a b c : Ren} (h : a.le b) (k : b.le c) : a.le c := fun i l e => k i l (h i l e)

mutual
theorem conc_mono {ρ ρ' : Ren} (h : ρ.le ρ') : ∀ (v : AV) (v' : Value), conc ρ v = some v' → conc ρ' v = some v'
  | .bool b, v', e => by simpa [conc] using e
  | .int k n, v', e => by simpa [conc] using e
  | .str s, v', e => by simpa [conc] using e
  | .nilptr, v', e => by simpa [conc] using e
  | .ptr i o, v', e => by
    simp only [conc] at e ⊢
    cases hl : ρ i with
    | none => simp [hl] at e
    | some l => rw [h i l hl]; simpa [hl] using e
  | .nilslice, v', e => by simpa [conc] using e
  | .slice i o len cap, v', e => by
    simp only [conc] at e ⊢
    cases hl : ρ i with
    | none => simp [hl] at e
    | some l => rw [h i l hl]; simpa [hl] using e
  | .sl0 i o1 o2 eo, v', e => by
    simp only [conc] at e ⊢
    cases hl : ρ i with
    | none => simp [hl] at e
    | some l => rw [h i l hl]; simpa [hl] using e
  | .nilmap, v', e => by simpa [conc] using e
  | .map i, v', e => by
    simp only [conc] at e ⊢
    cases hl : ρ i with
    | none => simp [hl] at e
    | some l => rw [h i l hl]; simpa [hl] using e
  | .func fn f c, v', e => by
    simp only [conc] at e ⊢
    cases hf : concL ρ f with
    | none => simp [hf] at e
    | some f' =>
      cases hc : concL ρ c with
      | none => simp [hf, hc] at e
      | some c' => rw [concL_mono h f f' hf, concL_mono h c c' hc]; simpa [hf, hc] using e
  | .yield i, v', e => by
    simp only [conc] at e ⊢
    cases hl : ρ i with
    | none => simp [hl] at e
    | some l => rw [h i l hl]; simpa [hl] using e
  | .nilfunc, v', e => by simpa [conc] using e
  | .iface t v, v', e => by
    simp only [conc] at e ⊢
    cases hv : conc ρ v with
    | none => simp [hv] at e
    | some x => rw [conc_mono h v x hv]; simpa [hv] using e
  | .niliface, v', e => by simpa [conc] using e
  | .agg cs, v', e => by
    simp only [conc] at e ⊢
    cases hv : concL ρ cs with
    | none => simp [hv] at e
    | some x => rw [concL_mono h cs x hv]; simpa [hv] using e
  | .tuple cs, v', e => by
    simp only [conc] at e ⊢
    cases hv : concL ρ cs with
    | none => simp [hv] at e
    | some x => rw [concL_mono h cs x hv]; simpa [hv] using e
theorem concL_mono {ρ ρ' : Ren} (h : ρ.le ρ') : ∀ (vs : List AV) (vs' : List Value), concL ρ vs = some vs' → concL ρ' vs = some vs'
  | [], vs', e => by simpa [concL] using e
  | v :: vs, vs', e => by
    simp only [concL] at e ⊢
    cases hv : conc ρ v with
    | none => simp [hv] at e
    | some x =>
      cases hc : concL ρ vs with
      | none => simp [hv, hc] at e
      | some y => rw [conc_mono h v x hv, concL_mono h vs y hc]; simpa [hv, hc] using e
end

theorem concL_cons {ρ : Ren} {v : AV} {vs : List AV} {l : List Value} : concL ρ (v :: vs) = some l ↔ ∃ a b, l = a :: b ∧ conc ρ v = some a ∧ concL ρ vs = some b := by
  simp only [concL]
  cases hv : conc ρ v with
  | none => simp
  | some a =>
    cases hs : concL ρ vs with
    | none => simp
    | some b => simp [eq_comm]

theorem concL_length {ρ : Ren} : ∀ {vs : List AV} {l : List Value}, concL ρ vs = some l → l.length = vs.length
  | [], l, h => by simp [concL] at h; subst h; rfl
  | v :: vs, l, h => by
    obtain ⟨a, b, rfl, _, hb⟩ := concL_cons.1 h
    simp [concL_length hb]

theorem concL_get {ρ : Ren} : ∀ {vs : List AV} {l : List Value}, concL ρ vs = some l → ∀ (k : Nat) (v : AV), vs[k]? = some v → ∃ v', l[k]? = some v' ∧ conc ρ v = some v'
  | [], l, h, k, v, e => by simp at e
  | x :: vs, l, h, k, v, e => by
    obtain ⟨a, b, rfl, ha, hb⟩ := concL_cons.1 h
    cases k with
    | zero => simp at e; subst e; exact ⟨a, rfl, ha⟩
    | succ k => simpa using concL_get hb k v (by simpa using e)

theorem concL_of_get {ρ : Ren} : ∀ {vs : List AV} {l : List Value}, l.length = vs.length → (∀ (k : Nat) (v : AV), vs[k]? = some v → ∃ v', l[k]? = some v' ∧ conc ρ v = some v') → concL ρ vs = some l
  | [], l, hl, _ => by simp at hl; subst hl; rfl
  | x :: vs, [], hl, _ => by simp at hl
  | x :: vs, a :: b, hl, h => by
    obtain ⟨v', h1, h2⟩ := h 0 x rfl
    simp at h1; subst h1
    exact concL_cons.2 ⟨_, _, rfl, h2, concL_of_get (by simpa using hl) fun k v e => by simpa using h (k + 1) v (by simpa using e)⟩

theorem concL_append {ρ : Ren} : ∀ {a b : List AV} {x y : List Value}, concL ρ a = some x → concL ρ b = some y → concL ρ (a ++ b) = some (x ++ y)
  | [], b, x, y, h, k => by simp [concL] at h; subst h; simpa using k
  | v :: a, b, x, y, h, k => by
    obtain ⟨p, q, rfl, hp, hq⟩ := concL_cons.1 h
    exact concL_cons.2 ⟨p, q ++ y, rfl, hp, concL_append hq k⟩

theorem concL_take {ρ : Ren} {a : List AV} {x : List Value} (h : concL ρ a = some x) (n : Nat) : concL ρ (a.take n) = some (x.take n) := by
  refine concL_of_get (by simp [concL_length h]) fun k v e => ?_
  rw [List.getElem?_take] at e ⊢
  split at e
  · rename_i hlt; rw [if_pos hlt]; exact concL_get h k v e
  · cases e

theorem concL_drop {ρ : Ren} {a : List AV} {x : List Value} (h : concL ρ a = some x) (n : Nat) : concL ρ (a.drop n) = some (x.drop n) := by
  refine concL_of_get (by simp [concL_length h]) fun k v e => ?_
  rw [List.getElem?_drop] at e ⊢
  exact concL_get h _ v e

theorem concL_replicate {ρ : Ren} {v : AV} {v' : Value} (h : conc ρ v = some v') : ∀ n : Nat, concL ρ (List.replicate n v) = some (List.replicate n v')
  | 0 => rfl
  | n + 1 => concL_cons.2 ⟨v', List.replicate n v', rfl, h, concL_replicate h n⟩

/-- The cells of a value. -/
def AV.cells : AV → List AV
  | .agg cs => cs
  | v => [v]

theorem conc_cells {ρ : Ren} {v : AV} {v' : Value} (h : conc ρ v = some v') : concL ρ v.cells = some v'.cells.toList := by
  cases v with
  | agg cs =>
    simp only [conc] at h
    cases hc : concL ρ cs with
    | none => simp [hc] at h
    | some l => simp [hc] at h; subst h; simpa [AV.cells, Value.cells] using hc
  | _ =>
    simp only [AV.cells]
    refine concL_cons.2 ⟨v', [], ?_, h, rfl⟩
    simp only [conc] at h
    (try split at h)
    all_goals first
      | (cases h; rfl)
      | (simp at h; subst h; rfl)
      | (simp at h)

/-- One cell holds it: no struct, no tuple. -/
def AV.flat : AV → Bool
  | .agg _ | .tuple _ => false
  | _ => true

theorem flat_one {ρ : Ren} {v : AV} {v' : Value} (h : conc ρ v = some v') (hf : v.flat = true) : v'.oneCell' = true := by
  cases v with
  | agg cs => simp [AV.flat] at hf
  | tuple cs => simp [AV.flat] at hf
  | _ =>
    simp only [conc] at h
    (try split at h)
    all_goals first
      | (cases h; rfl)
      | (simp at h; subst h; rfl)
      | (simp at h)

/-- An entry of a map. -/
structure AEnt where
  key : AV
  val : AV
  born : Nat

structure ADef where
  target : AV
  args : List AV

/-- Abstract blocks. A row: its first cells; its elements' type and how many cells one takes; from which cell on none is frozen; has it grown by append; may it be marked behind its end; may it be written; which others lie in the same block. -/
inductive AObj where
  | row (cs : List AV) (el sz fz : Nat) (gr mk own ro : Bool) (stale : List Nat)
  | map (es : List AEnt) (clock : Nat)
  | mapIter (m : Option Nat) (since : Nat) (seen : List Nat) (stepped : Nat)
  | strIter (s : List UInt8) (pos : Nat)
  | loop (st : LoopState) (pend : Option Code) (fn nt : Nat) (tm : T AV) (params : Array Tmp) (assign body : Code) (defers : Nat)
  | deferred (open_ : Bool)
  | tab (cs : List AV)
  | dead

structure AHeap where
  next : Nat
  t : T AObj

def AHeap.get (H : AHeap) (i : Nat) : AObj := (H.t.get i).getD .dead
def AHeap.set (H : AHeap) (i : Nat) (o : AObj) : AHeap := { H with t := H.t.set deep i o }

theorem AHeap.get_set_ne (H : AHeap) {i j : Nat} (o : AObj) (h : j ≠ i) : (H.set i o).get j = H.get j := by
  simp only [AHeap.get, AHeap.set, T.get_set_ne _ _ _ _ _ h]
theorem AHeap.get_set_same (H : AHeap) {i : Nat} (o : AObj) (h : i + 1 < 2 ^ deep) : (H.set i o).get i = o := by
  simp only [AHeap.get, AHeap.set]
  rw [T.get_set_same deep H.t i o h]
  rfl

def AObj.live : AObj → Bool
  | .dead => false
  | _ => true
def AObj.own : AObj → Bool
  | .row _ _ _ _ _ _ own _ _ => own
  | .dead => false
  | _ => true
def AObj.ro : AObj → Bool
  | .row _ _ _ _ _ _ _ ro _ => ro
  | .tab _ => true
  | .dead => true
  | _ => false
def AObj.stale : AObj → List Nat
  | .row _ _ _ _ _ _ _ _ st => st
  | _ => []

end Go.Am
/- An abstract machine for the model's code, part 2: what abstract memory says of a world, and the steps of memory. -/
namespace Go.Am
open Go Go.RowKit

/-- What an abstract block says of a world. -/
def objRel (ρ : Ren) (w : World) (l : Loc) : AObj → Prop
  | .row cs el sz fz gr mk _ _ _ => ∃ (c : Array Value) (fr : Nat × Nat), w.heap[l.b]? = some (.cells c el fr) ∧ l.base + cs.length ≤ c.size ∧ l.base + l.C * sz ≤ c.size ∧
      (∀ (k : Nat) (v : AV), cs[k]? = some v → ∃ v', conc ρ v = some v' ∧ c[l.base + k]? = some v') ∧
      (∀ k : Nat, fz ≤ k → l.base + k < c.size → w.frozen? ⟨l.b, l.base + k, none⟩ = false) ∧
      (gr = true → cs.length ≤ l.C * sz) ∧ (gr = false → l.base = 0 ∧ c.size = cs.length) ∧ (mk = false → fr.1 = fr.2 ∨ fr.2 ≤ l.base + fz)
  | .map es clock => ∃ es' : Array MapEntry, w.heap[l.b]? = some (.map es' clock) ∧ es'.size = es.length ∧
      ∀ (k : Nat) (e : AEnt), es[k]? = some e → ∃ a b, conc ρ e.key = some a ∧ conc ρ e.val = some b ∧ es'[k]? = some ⟨a, b, e.born⟩
  | .mapIter m since seen stepped => l.base = 0 ∧ match m with
    | none => w.heap[l.b]? = some (.mapIter none since seen.toArray stepped)
    | some i => ∃ lm, ρ i = some lm ∧ w.heap[l.b]? = some (.mapIter (some lm.b) since seen.toArray stepped)
  | .strIter s pos => l.base = 0 ∧ w.heap[l.b]? = some (.stringIter ⟨s.toArray⟩ pos)
  | .loop st pend fn nt tm params assign body defers => ∃ ld tmps, ρ defers = some ld ∧ tmps.size = nt ∧ (∀ t v, tm.get t = some v → ∃ v', conc ρ v = some v' ∧ tmps[t]? = some v') ∧
      w.heap[l.b]? = some (.loop { state := st, pending := pend, fn, tmps, params, assign, body, defers := ld.b })
  | .deferred o => w.heap[l.b]? = some (.deferred (if o then some [] else none))
  | .tab cs => l.base = 0 ∧ ∀ (k : Nat) (v : AV), cs[k]? = some v → ∃ v', conc ρ v = some v' ∧ w.cell? ⟨l.b, k, none⟩ = some v'
  | .dead => True

theorem objRel_same {ρ ρ' : Ren} {w w' : World} {l : Loc} {o : AObj} (hr : ρ.le ρ') (h : w'.heap[l.b]? = w.heap[l.b]?) (k : objRel ρ w l o) : objRel ρ' w' l o := by
  have hfz : ∀ (x : Addr), x.block = l.b → w'.frozen? x = w.frozen? x := fun x hx => by simp only [World.frozen?, hx, h]
  cases o with
  | row cs el sz fz gr mk own ro st =>
    obtain ⟨c, fr, h1, h2, h3, h4, h5, h6⟩ := k
    exact ⟨c, fr, h.trans h1, h2, h3, fun k v e => let ⟨v', a, b⟩ := h4 k v e; ⟨v', conc_mono hr _ _ a, b⟩, fun k a b => (hfz _ rfl).trans (h5 k a b), h6⟩
  | map es clock =>
    obtain ⟨es', h1, h2, h3⟩ := k
    exact ⟨es', h.trans h1, h2, fun k e he => let ⟨a, b, p, q, r⟩ := h3 k e he; ⟨a, b, conc_mono hr _ _ p, conc_mono hr _ _ q, r⟩⟩
  | mapIter m since seen stepped =>
    cases m with
    | none => exact ⟨k.1, h.trans k.2⟩
    | some i => obtain ⟨h0, lm, h1, h2⟩ := k; exact ⟨h0, lm, hr _ _ h1, h.trans h2⟩
  | strIter s pos => exact ⟨k.1, h.trans k.2⟩
  | loop st pend fn nt tm params assign body defers =>
    obtain ⟨ld, tmps, h1, h2, h3, h4⟩ := k
    exact ⟨ld, tmps, hr _ _ h1, h2, fun t v e => let ⟨v', a, b⟩ := h3 t v e; ⟨v', conc_mono hr _ _ a, b⟩, h.trans h4⟩
  | deferred o => exact h.trans k
  | tab cs =>
    have hc : ∀ (x : Addr), x.block = l.b → w'.cell? x = w.cell? x := fun x hx => by simp only [World.cell?, hx, h]
    exact ⟨k.1, fun j v e => let ⟨v', a, b⟩ := k.2 j v e; ⟨v', conc_mono hr _ _ a, (hc _ rfl).trans b⟩⟩
  | dead => trivial

/-- Two blocks that lie in one: at most one of them is the owner, and he knows of the other. -/
def Apart (H : AHeap) (i j : Nat) : Prop := ((H.get i).own = true → (H.get j).own = false) ∧ ((H.get i).own = true → j ∈ (H.get i).stale)

structure Rel (B : Nat) (W : World) (G : Nat) (ρ : Ren) (H : AHeap) (w : World) : Prop where
  frame : Below B W w
  obj : ∀ i l, ρ i = some l → objRel ρ w l (H.get i)
  lt : ∀ i l, ρ i = some l → i < H.next
  at_ : ∀ i l, ρ i = some l → l.b < w.heap.size
  old : ∀ i l, ρ i = some l → l.b < B → (H.get i).ro = true
  sep : ∀ i j l m, ρ i = some l → ρ j = some m → i ≠ j → l.b = m.b → (H.get i).live = true → (H.get j).live = true → Apart H i j
  glob : ∀ g, g < G → ∃ C, ρ g = some ⟨g, 0, C⟩
  fits : B ≤ W.heap.size
  room : H.next + 1 < 2 ^ deep

/-- What a step keeps of the names: those that were there. -/
def Ren.ext (ρ : Ren) (n : Nat) (ρ' : Ren) : Prop := ∀ i, i < n → ρ' i = ρ i

theorem Ren.ext_refl (ρ : Ren) (n : Nat) : ρ.ext n ρ := fun _ _ => rfl
theorem Ren.ext_trans {a b c : Ren} {n m : Nat} (h : a.ext n b) (k : b.ext m c) (hm : n ≤ m) : a.ext n c := fun i hi => (k i (by omega)).trans (h i hi)
theorem Ren.ext_mono {a b : Ren} {n m : Nat} (h : a.ext n b) (hm : m ≤ n) : a.ext m b := fun i hi => h i (by omega)

variable {B : Nat} {W : World} {G : Nat} {ρ : Ren} {H : AHeap} {w : World}

theorem Rel.le (h : Rel B W G ρ H w) {ρ' : Ren} (k : ρ.ext H.next ρ') : ρ.le ρ' := fun i l e => (k i (h.lt i l e)).trans e

theorem Rel.size (h : Rel B W G ρ H w) : B ≤ w.heap.size := Nat.le_trans h.fits h.frame.size

/-- Whatever is drawn changes nothing. -/
theorem Rel.drew (h : Rel B W G ρ H w) : Rel B W G ρ H w.drew :=
  ⟨h.frame.drew, fun i l e => objRel_same (Ren.le_refl _) rfl (h.obj i l e), h.lt, h.at_, h.old, h.sep, h.glob, h.fits, h.room⟩

/-- A block of which no more is known. -/
def AHeap.kill (H : AHeap) : List Nat → AHeap
  | [] => H
  | i :: is => (H.set i .dead).kill is

theorem AHeap.kill_next (l : List Nat) : ∀ H : AHeap, (H.kill l).next = H.next := by
  induction l with
  | nil => intro H; rfl
  | cons i is ih => intro H; exact ih _

theorem AHeap.get_kill (l : List Nat) : ∀ (H : AHeap) (j : Nat), j + 1 < 2 ^ deep → (H.kill l).get j = if j ∈ l then .dead else H.get j := by
  induction l with
  | nil => intro H j _; simp [AHeap.kill]
  | cons i is ih =>
    intro H j hj
    show ((H.set i .dead).kill is).get j = _
    rw [ih _ _ hj]
    by_cases hij : j = i
    · subst hij; rw [AHeap.get_set_same _ _ hj]; simp
    · rw [AHeap.get_set_ne _ _ hij]; simp [hij]

theorem AHeap.next_set (H : AHeap) (i : Nat) (o : AObj) : (H.set i o).next = H.next := rfl

/-- ONE BLOCK OF THE CALL's OWN IS WRITTEN: whoever else lay in it is known no more. -/
theorem Rel.upd (h : Rel B W G ρ H w) {i : Nat} {l : Loc} (hi : ρ i = some l) (hlive : (H.get i).live = true) (hown : (H.get i).own = true) (hro : (H.get i).ro = false)
    {w' : World} (hos : w'.os = w.os) (htp : w'.tape = w.tape) (hout : w'.output = w.output) (hsz : w'.heap.size = w.heap.size) (hblk : ∀ k, k ≠ l.b → w'.heap[k]? = w.heap[k]?) {o : AObj} (ho : objRel ρ w' l o) :
    Rel B W G ρ ((H.set i o).kill (H.get i).stale) w' := by
  have hB : B ≤ l.b := by
    rcases Nat.lt_or_ge l.b B with hlt | hge
    · have := h.old i l hi hlt; rw [hro] at this; cases this
    · exact hge
  have hin : ∀ j m, ρ j = some m → j + 1 < 2 ^ deep := fun j m hj => by have := h.lt j m hj; have := h.room; omega
  have hg : ∀ j m, ρ j = some m → ((H.set i o).kill (H.get i).stale).get j = if j ∈ (H.get i).stale then .dead else if j = i then o else H.get j := by
    intro j m hj
    rw [AHeap.get_kill _ _ _ (hin j m hj)]
    by_cases hji : j = i
    · subst hji; rw [AHeap.get_set_same _ _ (hin j m hj)]; simp
    · rw [AHeap.get_set_ne _ _ hji]; simp [hji]
  have hnot : ∀ j m, ρ j = some m → j ≠ i → l.b = m.b → j ∉ (H.get i).stale → (H.get j).live = false := by
    intro j m hj hji hb hst
    cases hl : (H.get j).live with
    | false => rfl
    | true => exact absurd ((h.sep i j l m hi hj (Ne.symm hji) hb hlive hl).2 hown) hst
  have hdead : ∀ ob : AObj, ob.live = false → ob = .dead := fun ob hob => by cases ob <;> first | rfl | (simp [AObj.live] at hob)
  refine ⟨⟨hos.trans h.frame.os, htp.trans h.frame.tape, hout.trans h.frame.output, by rw [hsz]; exact h.frame.size, fun k hk => (hblk k (by omega)).trans (h.frame.block k hk)⟩, ?_, ?_, ?_, ?_, ?_, h.glob, h.fits, ?_⟩
  · intro j m hj
    rw [hg j m hj]
    split
    · trivial
    · rename_i hst
      split
      · rename_i hji; subst hji; rw [hi] at hj; cases hj; exact ho
      · rename_i hji
        by_cases hb : l.b = m.b
        · rw [hdead _ (hnot j m hj hji hb hst)]; trivial
        · exact objRel_same (Ren.le_refl _) (hblk _ (Ne.symm hb)) (h.obj j m hj)
  · intro j m hj; rw [AHeap.kill_next]; exact h.lt j m hj
  · intro j m hj; rw [hsz]; exact h.at_ j m hj
  · intro j m hj hlt
    rw [hg j m hj]
    split
    · rfl
    · split
      · rename_i hji; subst hji; rw [hi] at hj; cases hj; omega
      · exact h.old j m hj hlt
  · intro a b la lb ha hb hab heq hlva hlvb
    rw [hg a la ha] at hlva
    rw [hg b lb hb] at hlvb
    unfold Apart
    rw [hg a la ha, hg b lb hb]
    by_cases hsa : a ∈ (H.get i).stale
    · simp [hsa, AObj.live] at hlva
    · by_cases hsb : b ∈ (H.get i).stale
      · simp [hsb, AObj.live] at hlvb
      · simp only [hsa, hsb, if_false] at hlva hlvb ⊢
        by_cases hai : a = i
        · subst hai
          rw [hi] at ha; cases ha
          have := hnot b lb hb (Ne.symm hab) heq hsb
          rw [if_neg (Ne.symm hab)] at hlvb
          rw [this] at hlvb; cases hlvb
        · by_cases hbi : b = i
          · subst hbi
            rw [hi] at hb; cases hb
            have := hnot a la ha hai heq.symm hsa
            rw [if_neg hai] at hlva
            rw [this] at hlva; cases hlva
          · rw [if_neg hai] at hlva; rw [if_neg hbi] at hlvb
            simp only [if_neg hai, if_neg hbi]
            exact h.sep a b la lb ha hb hab heq hlva hlvb
  · rw [AHeap.kill_next]; exact h.room

/-- A name more. -/
def Ren.put (ρ : Ren) (i : Nat) (l : Loc) : Ren := fun j => if j = i then some l else ρ j

theorem Ren.put_same (ρ : Ren) (i : Nat) (l : Loc) : ρ.put i l i = some l := by simp [Ren.put]
theorem Ren.put_ext (ρ : Ren) (i : Nat) (l : Loc) : ρ.ext i (ρ.put i l) := fun j hj => by simp [Ren.put]; intro h; omega

def AHeap.push (H : AHeap) (o : AObj) : AHeap := { next := H.next + 1, t := H.t.set deep H.next o }

theorem AHeap.get_push_new (H : AHeap) (o : AObj) (h : H.next + 1 < 2 ^ deep) : (H.push o).get H.next = o := AHeap.get_set_same H o h
theorem AHeap.get_push_old (H : AHeap) (o : AObj) {j : Nat} (h : j ≠ H.next) : (H.push o).get j = H.get j := AHeap.get_set_ne H o h

/-- A NEW BLOCK. -/
theorem Rel.new (h : Rel B W G ρ H w) {o : AObj} {ob : Obj} {C : Nat} (hroom : H.next + 2 < 2 ^ deep)
    (ho : objRel (ρ.put H.next ⟨w.heap.size, 0, C⟩) (w.alloc ob) ⟨w.heap.size, 0, C⟩ o) :
    Rel B W G (ρ.put H.next ⟨w.heap.size, 0, C⟩) (H.push o) (w.alloc ob) := by
  have hold : ∀ j m, ρ j = some m → (ρ.put H.next ⟨w.heap.size, 0, C⟩) j = some m := fun j m hj => by
    have := h.lt j m hj
    simp only [Ren.put]; rw [if_neg (by omega)]; exact hj
  have hcase : ∀ j m, (ρ.put H.next ⟨w.heap.size, 0, C⟩) j = some m → (j = H.next ∧ m = ⟨w.heap.size, 0, C⟩) ∨ (ρ j = some m ∧ j ≠ H.next) := by
    intro j m hj
    simp only [Ren.put] at hj
    split at hj
    · rename_i e; exact .inl ⟨e, by cases hj; rfl⟩
    · rename_i e; exact .inr ⟨hj, e⟩
  have hblk : ∀ k, k < w.heap.size → (w.alloc ob).heap[k]? = w.heap[k]? := fun k hk => Below.heap_alloc w ob k hk
  refine ⟨h.frame.alloc h.size ob, ?_, ?_, ?_, ?_, ?_, ?_, h.fits, hroom⟩
  · intro j m hj
    rcases hcase j m hj with ⟨rfl, rfl⟩ | ⟨hj', hne⟩
    · rw [AHeap.get_push_new _ _ h.room]; exact ho
    · rw [AHeap.get_push_old _ _ hne]
      exact objRel_same (fun i l e => hold i l e) (hblk _ (h.at_ j m hj')) (h.obj j m hj')
  · intro j m hj
    rcases hcase j m hj with ⟨rfl, _⟩ | ⟨hj', _⟩
    · exact Nat.lt_succ_self _
    · exact Nat.lt_succ_of_lt (h.lt j m hj')
  · intro j m hj
    rw [World.size_alloc]
    rcases hcase j m hj with ⟨_, rfl⟩ | ⟨hj', _⟩
    · exact Nat.lt_succ_self _
    · exact Nat.lt_succ_of_lt (h.at_ j m hj')
  · intro j m hj hlt
    rcases hcase j m hj with ⟨_, rfl⟩ | ⟨hj', hne⟩
    · have := h.size; exact absurd hlt (by show ¬ w.heap.size < B; omega)
    · rw [AHeap.get_push_old _ _ hne]; exact h.old j m hj' hlt
  · intro a b la lb ha hb hab heq hlva hlvb
    rcases hcase a la ha with ⟨rfl, rfl⟩ | ⟨ha', hna⟩
    · rcases hcase b lb hb with ⟨rfl, _⟩ | ⟨hb', _⟩
      · exact absurd rfl hab
      · have := h.at_ b lb hb'; simp at heq; omega
    · rcases hcase b lb hb with ⟨rfl, rfl⟩ | ⟨hb', hnb⟩
      · have := h.at_ a la ha'; simp at heq; omega
      · unfold Apart
        rw [AHeap.get_push_old _ _ hna] at hlva ⊢
        rw [AHeap.get_push_old _ _ hnb] at hlvb ⊢
        exact h.sep a b la lb ha' hb' hab heq hlva hlvb
  · intro g hg
    obtain ⟨C', e⟩ := h.glob g hg
    exact ⟨C', hold _ _ e⟩

end Go.Am
/- An abstract machine for the model's code, part 3: cells read and written. -/
namespace Go.Am
open Go Go.RowKit

variable {B : Nat} {W : World} {G : Nat} {ρ : Ren} {H : AHeap} {w : World} {P : Program}

/-- The cells from k on, replaced. -/
def splice {α : Type} (cs : List α) (k : Nat) (vs : List α) : List α := cs.take k ++ vs ++ cs.drop (k + vs.length)

theorem splice_length {α : Type} (cs : List α) (k : Nat) (vs : List α) (h : k + vs.length ≤ cs.length) : (splice cs k vs).length = cs.length := by
  simp [splice]; omega

theorem splice_get {α : Type} (cs : List α) (k : Nat) (vs : List α) (h : k + vs.length ≤ cs.length) (m : Nat) :
    (splice cs k vs)[m]? = if m < k then cs[m]? else if m < k + vs.length then vs[m - k]? else cs[m]? := by
  unfold splice
  rw [List.append_assoc]
  by_cases h1 : m < k
  · rw [if_pos h1, List.getElem?_append_left (by simp; omega), List.getElem?_take, if_pos h1]
  · rw [if_neg h1, List.getElem?_append_right (by simp; omega)]
    have : (List.take k cs).length = k := by simp; omega
    rw [this]
    by_cases h2 : m < k + vs.length
    · rw [if_pos h2, List.getElem?_append_left (by omega)]
    · rw [if_neg h2, List.getElem?_append_right (by omega), List.getElem?_drop]
      congr 1; omega

/-- The cells of a row, written one behind the other. -/
def wr (c : Array Value) (k : Nat) : List Value → Array Value
  | [] => c
  | v :: vs => wr (c.setIfInBounds k v) (k + 1) vs

theorem wr_size (vs : List Value) : ∀ (c : Array Value) (k : Nat), (wr c k vs).size = c.size := by
  induction vs with
  | nil => intro c k; rfl
  | cons v vs ih => intro c k; show (wr _ _ vs).size = _; rw [ih]; simp

theorem wr_get (vs : List Value) : ∀ (c : Array Value) (k m : Nat), k + vs.length ≤ c.size → (wr c k vs)[m]? = if m < k then c[m]? else if m < k + vs.length then vs[m - k]? else c[m]? := by
  induction vs with
  | nil =>
    intro c k m _
    show c[m]? = _
    by_cases h : m < k
    · rw [if_pos h]
    · rw [if_neg h, if_neg (by simp; omega)]
  | cons v vs ih =>
    intro c k m h
    simp only [List.length_cons] at h
    show (wr (c.setIfInBounds k v) (k + 1) vs)[m]? = _
    rw [ih _ _ _ (by simp; omega)]
    by_cases h1 : m < k
    · rw [if_pos (by omega), if_pos h1, Array.getElem?_setIfInBounds_ne (by omega)]
    · rw [if_neg h1]
      by_cases h2 : m = k
      · subst h2
        rw [if_pos (by omega), if_pos (by simp), Array.getElem?_setIfInBounds_self_of_lt (by omega)]
        simp
      · rw [if_neg (by omega)]
        by_cases h3 : m < k + 1 + vs.length
        · rw [if_pos h3, if_pos (by simp; omega)]
          obtain ⟨d, rfl⟩ : ∃ d, m = k + 1 + d := ⟨m - (k + 1), by omega⟩
          rw [show k + 1 + d - (k + 1) = d by omega, show k + 1 + d - k = d + 1 by omega]
          simp
        · rw [if_neg h3, if_neg (by simp; omega), Array.getElem?_setIfInBounds_ne (by omega)]

/-- One block, another. -/
def World.setBlk (w : World) (b : Nat) (o : Obj) : World := { w with heap := w.heap.setIfInBounds b o }

theorem setBlk_same (w : World) (b : Nat) (o : Obj) (h : b < w.heap.size) : (World.setBlk w b o).heap[b]? = some o := by
  simp [World.setBlk, h]
theorem setBlk_other (w : World) (b : Nat) (o : Obj) (k : Nat) (h : k ≠ b) : (World.setBlk w b o).heap[k]? = w.heap[k]? := by
  simp only [World.setBlk]; rw [Array.getElem?_setIfInBounds_ne (Ne.symm h)]
theorem setBlk_size (w : World) (b : Nat) (o : Obj) : (World.setBlk w b o).heap.size = w.heap.size := by simp [World.setBlk]
theorem setBlk_twice (w : World) (b : Nat) (o o' : Obj) : World.setBlk (World.setBlk w b o) b o' = World.setBlk w b o' := by
  simp [World.setBlk]
theorem setBlk_id (w : World) (b : Nat) (o : Obj) (h : w.heap[b]? = some o) : World.setBlk w b o = w := by
  have hb : b < w.heap.size := by
    rcases Nat.lt_or_ge b w.heap.size with h' | h'
    · exact h'
    · simp [Array.getElem?_eq_none h'] at h
  have : w.heap.setIfInBounds b o = w.heap := by
    apply Array.ext_getElem?
    intro k
    by_cases hk : k = b
    · subst hk; rw [Array.getElem?_setIfInBounds_self_of_lt hb]; exact h.symm
    · rw [Array.getElem?_setIfInBounds_ne (Ne.symm hk)]
  simp [World.setBlk, this]

theorem setCell_setBlk (w : World) (b k : Nat) (v : Value) (c : Array Value) (el : Nat) (fr : Nat × Nat) (h : w.heap[b]? = some (.cells c el fr)) :
    w.setCell ⟨b, k, none⟩ v = World.setBlk w b (.cells (c.setIfInBounds k v) el fr) := by
  have hb : b < w.heap.size := by
    rcases Nat.lt_or_ge b w.heap.size with h' | h'
    · exact h'
    · simp [Array.getElem?_eq_none h'] at h
  have e : ∀ f : Obj → Obj, w.heap.modify b f = w.heap.setIfInBounds b (f (.cells c el fr)) := by
    intro f
    apply Array.ext_getElem?
    intro j
    rw [Array.getElem?_modify]
    by_cases hj : b = j
    · subst hj; rw [if_pos rfl, h, Array.getElem?_setIfInBounds_self_of_lt hb]; rfl
    · rw [if_neg hj, Array.getElem?_setIfInBounds_ne hj]
  simp only [World.setCell, World.setBlk, e]
  rfl

theorem addr_add (b o n : Nat) : (⟨b, o, none⟩ : Addr).add n = ⟨b, o + n, none⟩ := by
  unfold Addr.add; split
  · rename_i h; subst h; rfl
  · rfl

theorem run_storeCells_row (b o : Nat) (el : Nat) (fr : Nat × Nat) : ∀ (vs : List Value) (i : Nat) (w : World) (c : Array Value), w.heap[b]? = some (.cells c el fr) → o + i + vs.length ≤ c.size →
    (∀ j, j < vs.length → w.frozen? ⟨b, o + i + j, none⟩ = false) → (∀ v ∈ vs, v.oneCell' = true) →
    (storeCells ⟨b, o, none⟩ vs i).run P w = .ok () (World.setBlk w b (.cells (wr c (o + i) vs) el fr)) := by
  intro vs
  induction vs with
  | nil =>
    intro i w c h _ _ _
    rw [show wr c (o + i) [] = c from rfl, setBlk_id w b _ h]
    simp [storeCells]
  | cons v vs ih =>
    intro i w c h hl hf h1
    simp only [List.length_cons] at hl hf
    have hb : b < w.heap.size := by
      rcases Nat.lt_or_ge b w.heap.size with h' | h'
      · exact h'
      · simp [Array.getElem?_eq_none h'] at h
    have hc : w.cell? ⟨b, o + i, none⟩ = some c[o + i] := by
      simp [World.cell?, h]
    have hfz : w.frozen? ⟨b, o + i, none⟩ = false := by simpa using hf 0 (by omega)
    have hst : (store (⟨b, o + i, none⟩ : Addr) v).run P w = .ok () (w.setCell ⟨b, o + i, none⟩ v) := by
      rw [run_store P w _ v _ (h1 v (by simp))]
      simp [hc, hfz]
    have hset := setCell_setBlk w b (o + i) v c el fr h
    have hrec := ih (i + 1) (World.setBlk w b (.cells (c.setIfInBounds (o + i) v) el fr)) (c.setIfInBounds (o + i) v) (setBlk_same w b _ hb) (by simp; omega)
      (fun j hj => by
        have := hf (j + 1) (by omega)
        have e : (World.setBlk w b (.cells (c.setIfInBounds (o + i) v) el fr)).frozen? ⟨b, o + (i + 1) + j, none⟩ = w.frozen? ⟨b, o + i + (j + 1), none⟩ := by
          simp only [World.frozen?, setBlk_same w b _ hb, h]
          rw [show o + (i + 1) + j = o + i + (j + 1) by omega]
        rw [e]; exact this) (fun u hu => h1 u (by simp [hu]))
    show (do store ((⟨b, o, none⟩ : Addr).add i) v; storeCells ⟨b, o, none⟩ vs (i + 1) : Sem Unit).run P w = _
    rw [Sem.run_bind, addr_add, hst, Result.andThen_ok, hset, hrec, setBlk_twice]
    show _ = Result.ok () (World.setBlk w b (.cells (wr (c.setIfInBounds (o + i) v) (o + i + 1) vs) el fr))
    rw [show o + (i + 1) = o + i + 1 by omega]

/-- A CELL READ. -/
theorem Rel.load (h : Rel B W G ρ H w) {i : Nat} {l : Loc} (hi : ρ i = some l) {cs : List AV} {el sz fz : Nat} {gr mk own ro : Bool} {st : List Nat}
    (hr : H.get i = .row cs el sz fz gr mk own ro st) {k : Nat} {v : AV} (hv : cs[k]? = some v) : ∃ v', conc ρ v = some v' ∧ w.cell? ⟨l.b, l.base + k, none⟩ = some v' := by
  have ho := h.obj i l hi
  rw [hr] at ho
  obtain ⟨c, fr, h1, h2, h3, h4, _⟩ := ho
  obtain ⟨v', a, b⟩ := h4 k v hv
  exact ⟨v', a, by simp [World.cell?, h1, b]⟩

/-- CELLS READ. -/
theorem Rel.loads (h : Rel B W G ρ H w) {i : Nat} {l : Loc} (hi : ρ i = some l) {cs : List AV} {el sz fz : Nat} {gr mk own ro : Bool} {st : List Nat}
    (hr : H.get i = .row cs el sz fz gr mk own ro st) (k n : Nat) (hn : k + n ≤ cs.length) :
    ∃ vs', concL ρ ((cs.drop k).take n) = some vs' ∧ vs'.length = n ∧ (∀ (j : Nat) (v : Value), vs'[j]? = some v → w.cell? ((⟨l.b, l.base + k, none⟩ : Addr).add j) = some v) ∧
      (loadCells ⟨l.b, l.base + k, none⟩ n).run P w = .ok vs'.toArray w := by
  have hall : ∀ m : Nat, m ≤ cs.length → ∀ (d : Nat), cs.length - m = d → ∃ vs', concL ρ (cs.drop m) = some vs' ∧ ∀ (j : Nat) (v : Value), vs'[j]? = some v → w.cell? ⟨l.b, l.base + m + j, none⟩ = some v := by
    intro m hm d
    induction d generalizing m with
    | zero =>
      intro hd
      refine ⟨[], ?_, fun j v e => by simp at e⟩
      rw [List.drop_eq_nil_of_le (by omega)]; rfl
    | succ d ih =>
      intro hd
      have hlt : m < cs.length := by omega
      obtain ⟨vs', e1, e2⟩ := ih (m + 1) (by omega) (by omega)
      obtain ⟨v', a, b⟩ := h.load hi hr (k := m) (v := cs[m]) (by simp [hlt])
      refine ⟨v' :: vs', ?_, fun j v e => ?_⟩
      · rw [List.drop_eq_getElem_cons hlt]; exact concL_cons.2 ⟨v', vs', rfl, a, e1⟩
      · cases j with
        | zero => simp at e; subst e; simpa using b
        | succ j => have := e2 j v (by simpa using e); rw [show l.base + m + (j + 1) = l.base + (m + 1) + j by omega]; exact this
  obtain ⟨ws, e1, e2⟩ := hall k (by omega) _ rfl
  have hlen : (ws.take n).length = n := by
    have := concL_length e1; simp at this ⊢; omega
  have hcell : ∀ (j : Nat) (v : Value), (ws.take n)[j]? = some v → w.cell? ((⟨l.b, l.base + k, none⟩ : Addr).add j) = some v := by
    intro j v e
    rw [addr_add]
    rw [List.getElem?_take] at e
    split at e
    · exact e2 j v e
    · cases e
  refine ⟨ws.take n, concL_take e1 n, hlen, hcell, ?_⟩
  have := run_loadCells_list (P := P) (w := w) ⟨l.b, l.base + k, none⟩ (ws.take n) hcell
  rw [hlen] at this
  exact this

/-- Cells written: by the owner alone. -/
def AHeap.storeN (H : AHeap) (i o : Nat) (vs : List AV) : Option AHeap :=
  match H.get i with
  | .row cs el sz fz gr mkd true false st =>
    bif Nat.ble (o + vs.length) cs.length && Nat.ble fz o && vs.all AV.flat then some ((H.set i (.row (splice cs o vs) el sz fz gr mkd true false [])).kill st) else none
  | _ => none

theorem ble_le {a b : Nat} (h : Nat.ble a b = true) : a ≤ b := Nat.le_of_ble_eq_true h

theorem flat_all {ρ : Ren} : ∀ {vs : List AV} {l : List Value}, concL ρ vs = some l → vs.all AV.flat = true → ∀ v ∈ l, v.oneCell' = true
  | [], l, h, _, v, hv => by simp [concL] at h; subst h; simp at hv
  | x :: vs, l, h, hf, v, hv => by
    obtain ⟨a, b, rfl, ha, hb⟩ := concL_cons.1 h
    simp only [List.all_cons, Bool.and_eq_true] at hf
    rcases List.mem_cons.1 hv with rfl | hv
    · exact flat_one ha hf.1
    · exact flat_all hb hf.2 v hv

theorem Rel.storeN (h : Rel B W G ρ H w) {i : Nat} {l : Loc} (hi : ρ i = some l) {o : Nat} {vs : List AV} {H' : AHeap} (hs : H.storeN i o vs = some H') {vs' : List Value} (hc : concL ρ vs = some vs') :
    ∃ w', (storeCells ⟨l.b, l.base + o, none⟩ vs').run P w = .ok () w' ∧ Rel B W G ρ H' w' ∧ H'.next = H.next := by
  unfold AHeap.storeN at hs
  split at hs
  rotate_left
  · cases hs
  rename_i cs el sz fz gr mk st hr
  cases hcond : (Nat.ble (o + vs.length) cs.length && Nat.ble fz o && vs.all AV.flat) with
  | false => rw [hcond] at hs; simp at hs
  | true =>
    rw [hcond] at hs
    simp only [cond_true, Option.some.injEq] at hs
    simp only [Bool.and_eq_true] at hcond
    obtain ⟨⟨c1, c2⟩, c3⟩ := hcond
    have c1 := ble_le c1
    have c2 := ble_le c2
    have ho := h.obj i l hi
    rw [hr] at ho
    obtain ⟨c, fr, h1, h2, h3, h4, h5, h6, h8, h7⟩ := ho
    have hlen := concL_length hc
    have hb := h.at_ i l hi
    have hrun := run_storeCells_row (P := P) l.b (l.base + o) el fr vs' 0 w c h1 (by omega) (fun j hj => by
      have := h5 (o + j) (by omega) (by omega)
      rwa [show l.base + o + 0 + j = l.base + (o + j) by omega]) (flat_all hc c3)
    refine ⟨_, hrun, ?_, ?_⟩
    rotate_left
    · subst hs; rw [AHeap.kill_next]; rfl
    subst hs
    have hst : st = (H.get i).stale := by rw [hr]; rfl
    rw [hst]
    refine h.upd (w' := World.setBlk w l.b (.cells (wr c (l.base + o + 0) vs') el fr)) hi (by rw [hr]; rfl) (by rw [hr]; rfl) (by rw [hr]; rfl) rfl rfl rfl (setBlk_size _ _ _) (fun k hk => setBlk_other _ _ _ _ hk) ?_
    have hfz : ∀ x, (World.setBlk w l.b (.cells (wr c (l.base + o + 0) vs') el fr)).frozen? ⟨l.b, x, none⟩ = w.frozen? ⟨l.b, x, none⟩ := fun x => by
      simp only [World.frozen?, setBlk_same w l.b _ hb, h1]
    refine ⟨wr c (l.base + o + 0) vs', fr, setBlk_same w l.b _ hb, ?_, ?_, ?_, ?_, ?_, ?_, h7⟩
    · rw [splice_length _ _ _ c1, wr_size]; exact h2
    · rw [wr_size]; exact h3
    · intro k v e
      rw [splice_get _ _ _ c1] at e
      rw [wr_get _ _ _ _ (by omega)]
      by_cases k1 : k < o
      · rw [if_pos k1] at e; rw [if_pos (by omega)]; exact h4 k v e
      · rw [if_neg k1] at e
        rw [if_neg (by omega)]
        by_cases k2 : k < o + vs.length
        · rw [if_pos k2] at e
          rw [if_pos (by omega)]
          obtain ⟨v', a, b⟩ := concL_get hc _ _ e
          exact ⟨v', b, by rw [show l.base + k - (l.base + o + 0) = k - o by omega]; exact a⟩
        · rw [if_neg k2] at e; rw [if_neg (by omega)]; exact h4 k v e
    · intro k a b; rw [hfz]; rw [wr_size] at b; exact h5 k a b
    · intro g; rw [splice_length _ _ _ c1]; exact h6 g
    · intro g; rw [splice_length _ _ _ c1, wr_size]; exact h8 g

end Go.Am
/- An abstract machine for the model's code, part 4: a slice that grows in its place: a second name for one block. -/
namespace Go.Am
open Go Go.RowKit

variable {B : Nat} {W : World} {G : Nat} {ρ : Ren} {H : AHeap} {w : World} {P : Program}

theorem dead_of {ob : AObj} (h : ob.live = false) : ob = .dead := by cases ob <;> first | rfl | (simp [AObj.live] at h)

/-- Behind a write the owner is alone in his block. -/
theorem Rel.upd_alone (h : Rel B W G ρ H w) {i : Nat} {l : Loc} (hi : ρ i = some l) (hlive : (H.get i).live = true) (hown : (H.get i).own = true) (o : AObj) :
    ∀ j m, ρ j = some m → m.b = l.b → (((H.set i o).kill (H.get i).stale).get j).live = true → j = i := by
  intro j m hj hb hl
  have hin : j + 1 < 2 ^ deep := by have := h.lt j m hj; have := h.room; omega
  rw [AHeap.get_kill _ _ _ hin] at hl
  by_cases hji : j = i
  · exact hji
  · by_cases hst : j ∈ (H.get i).stale
    · rw [if_pos hst] at hl; cases hl
    · rw [if_neg hst, AHeap.get_set_ne _ _ hji] at hl
      exact absurd ((h.sep i j l m hi hj (Ne.symm hji) hb.symm hlive hl).2 hown) hst

/-- A SECOND NAME for the block of one that is its owner no more. -/
theorem Rel.alias (h : Rel B W G ρ H w) {i : Nat} {l l' : Loc} (hi : ρ i = some l) (hB : B ≤ l.b) (hb : l'.b = l.b) {o' : AObj} (hst : i ∈ o'.stale)
    (hroom : H.next + 2 < 2 ^ deep) (hobj : objRel (ρ.put H.next l') w l' o')
    (honly : ∀ j m, ρ j = some m → m.b = l.b → (H.get j).live = true → j = i) (hiown : (H.get i).own = false) :
    Rel B W G (ρ.put H.next l') (H.push o') w := by
  have hold : ∀ j m, ρ j = some m → (ρ.put H.next l') j = some m := fun j m hj => by
    have := h.lt j m hj
    simp only [Ren.put]; rw [if_neg (by omega)]; exact hj
  have hcase : ∀ j m, (ρ.put H.next l') j = some m → (j = H.next ∧ m = l') ∨ (ρ j = some m ∧ j ≠ H.next) := by
    intro j m hj
    simp only [Ren.put] at hj
    split at hj
    · rename_i e; exact .inl ⟨e, by cases hj; rfl⟩
    · rename_i e; exact .inr ⟨hj, e⟩
  have hne : i ≠ H.next := by have := h.lt i l hi; omega
  refine ⟨h.frame, ?_, ?_, ?_, ?_, ?_, ?_, h.fits, hroom⟩
  · intro j m hj
    rcases hcase j m hj with ⟨rfl, rfl⟩ | ⟨hj', hne⟩
    · rw [AHeap.get_push_new _ _ h.room]; exact hobj
    · rw [AHeap.get_push_old _ _ hne]
      exact objRel_same (fun i l e => hold i l e) rfl (h.obj j m hj')
  · intro j m hj
    rcases hcase j m hj with ⟨rfl, _⟩ | ⟨hj', _⟩
    · exact Nat.lt_succ_self _
    · exact Nat.lt_succ_of_lt (h.lt j m hj')
  · intro j m hj
    rcases hcase j m hj with ⟨_, rfl⟩ | ⟨hj', _⟩
    · rw [hb]; exact h.at_ i l hi
    · exact h.at_ j m hj'
  · intro j m hj hlt
    rcases hcase j m hj with ⟨_, rfl⟩ | ⟨hj', hne⟩
    · omega
    · rw [AHeap.get_push_old _ _ hne]; exact h.old j m hj' hlt
  · intro a b la lb ha hb' hab heq hlva hlvb
    rcases hcase a la ha with ⟨rfl, rfl⟩ | ⟨ha', hna⟩
    · rcases hcase b lb hb' with ⟨rfl, _⟩ | ⟨hb'', hnb⟩
      · exact absurd rfl hab
      · rw [AHeap.get_push_old _ _ hnb] at hlvb
        have hbi := honly b lb hb'' (by rw [← heq, hb]) hlvb
        subst hbi
        unfold Apart
        rw [AHeap.get_push_new _ _ h.room, AHeap.get_push_old _ _ hnb]
        exact ⟨fun _ => hiown, fun _ => hst⟩
    · rcases hcase b lb hb' with ⟨rfl, rfl⟩ | ⟨hb'', hnb⟩
      · rw [AHeap.get_push_old _ _ hna] at hlva
        have hai := honly a la ha' (by rw [heq, hb]) hlva
        subst hai
        unfold Apart
        rw [AHeap.get_push_old _ _ hna]
        exact ⟨fun k => (by rw [hiown] at k; cases k), fun k => (by rw [hiown] at k; cases k)⟩
      · unfold Apart
        rw [AHeap.get_push_old _ _ hna] at hlva ⊢
        rw [AHeap.get_push_old _ _ hnb] at hlvb ⊢
        exact h.sep a b la lb ha' hb'' hab heq hlva hlvb
  · intro g hg
    obtain ⟨C', e⟩ := h.glob g hg
    exact ⟨C', hold _ _ e⟩

/-- AN APPEND IN ITS PLACE, where nothing is known of the room. -/
def AHeap.grow (H : AHeap) (i o len eo : Nat) (news : List AV) : Option AHeap :=
  match H.get i with
  | .row cs el sz fz true mkd true false st =>
    bif Nat.beq o (eo * sz) && Nat.ble (o + len * sz) cs.length && Nat.ble fz (o + len * sz) && news.all AV.flat then
      some (((H.set i (.row (cs.take (o + len * sz)) el sz fz true mkd false false [])).kill st).push (.row ((cs.drop o).take (len * sz) ++ news) el sz (fz - o) true mkd true false [i]))
    else none
  | _ => none

theorem Rel.grow (h : Rel B W G ρ H w) {i : Nat} {l : Loc} (hi : ρ i = some l) {o len eo k : Nat} {news : List AV} {H' : AHeap} (hs : H.grow i o len eo news = some H') {news' : List Value}
    (hc : concL ρ news = some news') {sz : Nat} (hsz : ∀ cs el s fz gr mk own ro st, H.get i = .row cs el s fz gr mk own ro st → s = sz) (hk : news.length = k * sz) (hfit : len + k ≤ l.C - eo) (hroom : H.next + 2 < 2 ^ deep) :
    ∃ w', (storeCells ⟨l.b, l.base + o + len * sz, none⟩ news').run P w = .ok () w' ∧ Rel B W G (ρ.put H.next ⟨l.b, l.base + o, l.C - eo⟩) H' w' ∧ H'.next = H.next + 1 := by
  unfold AHeap.grow at hs
  split at hs
  rotate_left
  · cases hs
  rename_i cs el s fz mkd st hr
  obtain rfl : s = sz := hsz _ _ _ _ _ _ _ _ _ hr
  cases hcond : (Nat.beq o (eo * s) && Nat.ble (o + len * s) cs.length && Nat.ble fz (o + len * s) && news.all AV.flat) with
  | false => rw [hcond] at hs; simp at hs
  | true =>
    rw [hcond] at hs
    simp only [cond_true, Option.some.injEq] at hs
    simp only [Bool.and_eq_true] at hcond
    obtain ⟨⟨⟨c0, c1⟩, c2⟩, c3⟩ := hcond
    have c0 : o = eo * s := Nat.eq_of_beq_eq_true c0
    have c1 := ble_le c1
    have c2 := ble_le c2
    have ho := h.obj i l hi
    rw [hr] at ho
    obtain ⟨c, fr, h1, h2, h3, h4, h5, h6, _, h7⟩ := ho
    have hlen := concL_length hc
    have hb := h.at_ i l hi
    have h6' := h6 rfl
    have hmul : o + len * s + news.length ≤ l.C * s := by
      rw [hk, c0, ← Nat.add_mul, ← Nat.add_mul]
      rcases Nat.eq_zero_or_pos s with hs0 | hs0
      · subst hs0; simp
      · have e1 : (eo + len) * s ≤ l.C * s := by rw [Nat.add_mul]; omega
        have e2 := Nat.le_of_mul_le_mul_right e1 hs0
        exact Nat.mul_le_mul_right s (by omega)
    have hrun := run_storeCells_row (P := P) l.b (l.base + o + len * s) el fr news' 0 w c h1 (by omega) (fun j hj => by
      have := h5 (o + len * s + j) (by omega) (by omega)
      rwa [show l.base + o + len * s + 0 + j = l.base + (o + len * s + j) by omega]) (flat_all hc c3)
    generalize hw' : World.setBlk w l.b (.cells (wr c (l.base + o + len * s + 0) news') el fr) = w' at hrun
    have hblk : w'.heap[l.b]? = some (.cells (wr c (l.base + o + len * s + 0) news') el fr) := by rw [← hw']; exact setBlk_same w l.b _ hb
    have hfz : ∀ x, w'.frozen? ⟨l.b, x, none⟩ = w.frozen? ⟨l.b, x, none⟩ := fun x => by
      simp only [World.frozen?, hblk, h1]
    have hst : st = (H.get i).stale := by rw [hr]; rfl
    have hB : B ≤ l.b := by
      rcases Nat.lt_or_ge l.b B with hlt | hge
      · have := h.old i l hi hlt; rw [hr] at this; cases this
      · exact hge
    have hwg : ∀ m, m < l.base + o + len * s → (wr c (l.base + o + len * s + 0) news')[m]? = c[m]? := fun m hm => by
      rw [wr_get _ _ _ _ (by omega), if_pos (by omega)]
    have r1 := h.upd (w' := w') hi (by rw [hr]; rfl) (by rw [hr]; rfl) (by rw [hr]; rfl) (by rw [← hw']; rfl) (by rw [← hw']; rfl) (by rw [← hw']; rfl) (by rw [← hw']; exact setBlk_size _ _ _)
      (fun k hk => by rw [← hw']; exact setBlk_other _ _ _ _ hk) (o := .row (cs.take (o + len * s)) el s fz true mkd false false [])
      ⟨_, fr, hblk, by rw [wr_size]; simp; omega, by rw [wr_size]; exact h3, fun k v e => (by
        rw [List.getElem?_take] at e
        split at e
        · rename_i hk
          obtain ⟨v', a, b⟩ := h4 k v e
          exact ⟨v', a, by rw [hwg _ (by omega)]; exact b⟩
        · exact absurd e (by simp)), fun k a b => (by rw [hfz]; rw [wr_size] at b; exact h5 k a b), fun _ => (by have := h6 rfl; simp; omega), fun k => (by cases k), h7⟩
    have r2 := h.upd_alone hi (by rw [hr]; rfl) (by rw [hr]; rfl) (.row (cs.take (o + len * s)) el s fz true mkd false false [])
    rw [← hst] at r1 r2
    have hin : i + 1 < 2 ^ deep := by have := h.lt i l hi; have := h.room; omega
    have hnext : ((H.set i (.row (cs.take (o + len * s)) el s fz true mkd false false [])).kill st).next = H.next := by rw [AHeap.kill_next]; rfl
    refine ⟨w', hrun, ?_, ?_⟩
    · subst hs
      rw [← hnext]
      refine r1.alias (l := l) (l' := ⟨l.b, l.base + o, l.C - eo⟩) hi hB rfl (o' := .row ((cs.drop o).take (len * s) ++ news) el s (fz - o) true mkd true false [i]) (by simp [AObj.stale]) (by rw [hnext]; exact hroom) ?_ r2 ?_
      · have hle : ρ.le (ρ.put ((H.set i (.row (cs.take (o + len * s)) el s fz true mkd false false [])).kill st).next ⟨l.b, l.base + o, l.C - eo⟩) := by
          rw [hnext]; exact h.le (Ren.put_ext _ _ _)
        refine ⟨_, fr, hblk, ?_, ?_, ?_, ?_, ?_, fun k => (by cases k), ?_⟩
        · rw [wr_size]; simp; omega
        · rw [wr_size]
          show l.base + o + (l.C - eo) * s ≤ c.size
          rw [c0, Nat.sub_mul]
          have := h6 rfl
          omega
        · intro m v e
          show ∃ v', _ ∧ (wr c (l.base + o + len * s + 0) news')[l.base + o + m]? = some v'
          rw [wr_get _ _ _ _ (by omega)]
          have hl1 : (List.take (len * s) (List.drop o cs)).length = len * s := by simp; omega
          by_cases hm : m < len * s
          · rw [if_pos (by omega)]
            rw [List.getElem?_append_left (by omega), List.getElem?_take, if_pos hm, List.getElem?_drop] at e
            obtain ⟨v', a, b⟩ := h4 _ v e
            exact ⟨v', conc_mono hle _ _ a, by rw [show l.base + o + m = l.base + (o + m) by omega]; exact b⟩
          · rw [if_neg (by omega)]
            rw [List.getElem?_append_right (by omega), hl1] at e
            have hm2 : m - len * s < news.length := by
              rcases Nat.lt_or_ge (m - len * s) news.length with h' | h'
              · exact h'
              · rw [List.getElem?_eq_none h'] at e; cases e
            rw [if_pos (by omega)]
            obtain ⟨v', a, b⟩ := concL_get hc _ _ e
            exact ⟨v', conc_mono hle _ _ b, by rw [show l.base + o + m - (l.base + o + len * s + 0) = m - len * s by omega]; exact a⟩
        · intro m a b
          show w'.frozen? ⟨l.b, l.base + o + m, none⟩ = false
          rw [hfz]
          rw [wr_size] at b
          have := h5 (o + m) (by omega) (by show l.base + (o + m) < c.size; have b : l.base + o + m < c.size := b; omega)
          rwa [show l.base + o + m = l.base + (o + m) by omega]
        · intro _
          show (List.take (len * s) (List.drop o cs) ++ news).length ≤ (l.C - eo) * s
          rw [Nat.sub_mul, ← c0]
          simp; omega
        · intro hm
          rcases h7 hm with e | e
          · exact .inl e
          · exact .inr (by show fr.2 ≤ l.base + o + (fz - o); omega)
      · rw [AHeap.get_kill _ _ _ hin]
        split
        · rfl
        · rw [AHeap.get_set_same _ _ hin]; rfl
    · subst hs; show _ + 1 = _; rw [hnext]

end Go.Am
/- An abstract machine for the model's code, part 5: operations that touch no memory. -/
namespace Go.Am
open Go Go.RowKit

/-- What is known of a type. -/
structure TyI where
  desc : TypeDesc
  size : Nat
  bytes : Nat
  zero : AV

/-- Functions of the model's own. -/
inductive AExt where
  | indexByteString | countString | noEscape | mapsClone
  deriving DecidableEq

def AExt.entry : AExt → Array Value → Sem Value
  | .indexByteString => Extern.BytealgIndexByte.indexByte
  | .countString => Extern.BytealgCount.count
  | .noEscape => Extern.AbiNoEscape.same
  | .mapsClone => Extern.MapsClone.clone

/-- What is known of a program. -/
structure Env where
  fn : T Func
  ty : T TyI
  ext : T AExt
  lies : List (Nat × Nat × Nat × Nat)
  gl : Nat

structure Env.Ok (E : Env) (P : Program) : Prop where
  fn : ∀ f x, E.fn.get f = some x → P.funcs[f]? = some x ∧ (x.name == "runtime.NumGoroutine") = false ∧ x.body.isNone = false
  ty : ∀ t x, E.ty.get t = some x → P.underlying t = some x.desc ∧ ∃ i zv, P.info? t = some i ∧ i.size = x.size ∧ i.bytes = x.bytes ∧ i.zero = some zv ∧ ∀ ρ, conc ρ x.zero = some zv
  ext : ∀ f x, E.ext.get f = some x → ∃ fn : Func, P.funcs[f]? = some fn ∧ (fn.name == "runtime.NumGoroutine") = false ∧ fn.body.isNone = true ∧ Extern.findNext fn = none ∧ Extern.find fn = some x.entry
  lies : ∀ e n o u, (e, n, o, u) ∈ E.lies → liesAt P P.depth e (n / P.cellsOf e) o u 1 = true
  mixed : P.follows .mixedOrders = true

variable {E : Env} {P : Program} {w : World}

theorem Env.Ok.under (h : E.Ok P) {t : TypeId} {x : TyI} (e : E.ty.get t = some x) (w : World) : (underlying t).run P w = .ok x.desc w :=
  run_underlying (h.ty t x e).1 w

theorem Env.Ok.size (h : E.Ok P) {t : TypeId} {x : TyI} (e : E.ty.get t = some x) (w : World) : (sizeOf t).run P w = .ok x.size w := by
  obtain ⟨_, i, zv, h1, h2, _⟩ := h.ty t x e
  simp [sizeOf, typeInfo, h1, h2]

theorem Env.Ok.zero (h : E.Ok P) {t : TypeId} {x : TyI} (e : E.ty.get t = some x) : ∃ zv, (∀ w, (zeroValue t).run P w = .ok zv w) ∧ ∀ ρ, conc ρ x.zero = some zv := by
  obtain ⟨_, i, zv, h1, _, _, h2, h3⟩ := h.ty t x e
  exact ⟨zv, fun w => by simp [zeroValue, typeInfo, h1, h2], h3⟩

theorem Env.Ok.info (h : E.Ok P) {t : TypeId} {x : TyI} (e : E.ty.get t = some x) : ∃ i, P.info? t = some i ∧ i.size = x.size ∧ i.bytes = x.bytes := by
  obtain ⟨_, i, zv, h1, h2, h3, _⟩ := h.ty t x e
  exact ⟨i, h1, h2, h3⟩

def TyI.isAgg (x : TyI) : Bool := match x.desc with
  | .struct _ | .array _ _ => true
  | _ => false

theorem Env.Ok.isAgg (h : E.Ok P) {t : TypeId} {x : TyI} (e : E.ty.get t = some x) (w : World) : (Go.isAgg t).run P w = .ok x.isAgg w := by
  simp only [Go.isAgg, Sem.run_bind, h.under e w, Result.andThen_ok, TyI.isAgg]
  cases x.desc <;> rfl

/-- A constant, abstractly. -/
def ofFlat : Value → Option AV
  | .bool b => some (.bool b)
  | .int k n => some (.int k n)
  | .string s => some (.str s.data.toList)
  | .pointer none => some .nilptr
  | .slice none 0 0 => some .nilslice
  | .map none => some .nilmap
  | .nilFunc => some .nilfunc
  | .nilIface => some .niliface
  | _ => none

def ofFlats : List Value → Option (List AV)
  | [] => some []
  | v :: vs => match ofFlat v, ofFlats vs with
    | some a, some b => some (a :: b)
    | _, _ => none

def ofValue : Value → Option AV
  | .agg cs => (ofFlats cs.toList).map .agg
  | .tuple cs => (ofFlats cs.toList).map .tuple
  | v => ofFlat v

theorem ofFlat_conc {ρ : Ren} {v : Value} {a : AV} (h : ofFlat v = some a) : conc ρ a = some v := by
  unfold ofFlat at h
  split at h <;> first | (cases h; rfl) | cases h

theorem ofFlats_conc {ρ : Ren} : ∀ {vs : List Value} {l : List AV}, ofFlats vs = some l → concL ρ l = some vs
  | [], l, h => by simp [ofFlats] at h; subst h; rfl
  | v :: vs, l, h => by
    simp only [ofFlats] at h
    split at h
    · rename_i a b ha hb
      cases h
      exact concL_cons.2 ⟨v, vs, rfl, ofFlat_conc ha, ofFlats_conc hb⟩
    · cases h

theorem ofValue_conc {ρ : Ren} {v : Value} {a : AV} (h : ofValue v = some a) : conc ρ a = some v := by
  unfold ofValue at h
  split at h
  · rename_i cs
    cases hf : ofFlats cs.toList with
    | none => simp [hf] at h
    | some l => simp [hf] at h; subst h; simp [conc, ofFlats_conc hf]
  · rename_i cs
    cases hf : ofFlats cs.toList with
    | none => simp [hf] at h
    | some l => simp [hf] at h; subst h; simp [conc, ofFlats_conc hf]
  · exact ofFlat_conc h

/-- What operands stand for. -/
def Evr (ρ : Ren) (ev : Operand → Option AV) (cev : Operand → Value) : Prop := ∀ x v, ev x = some v → conc ρ v = some (cev x)

theorem Evr.mono {ρ ρ' : Ren} {ev : Operand → Option AV} {cev : Operand → Value} (h : Evr ρ ev cev) (k : ρ.le ρ') : Evr ρ' ev cev := fun x v e => conc_mono k _ _ (h x v e)

/-- Whole numbers. -/
def intOne (op : BinOp) (k : IntKind) (a b : Int) : Option AV := match op with
  | .add => some (.int k (k.wrap (a + b)))
  | .sub => some (.int k (k.wrap (a - b)))
  | .mul => some (.int k (k.wrap (a * b)))
  | .quo => bif decide (b = 0) then none else some (.int k (k.wrap (a.tdiv b)))
  | .rem => bif decide (b = 0) then none else some (.int k (a.tmod b))
  | .and => some (.int k (k.wrap ((BitVec.ofInt k.bits a &&& BitVec.ofInt k.bits b).toNat)))
  | .or => some (.int k (k.wrap ((BitVec.ofInt k.bits a ||| BitVec.ofInt k.bits b).toNat)))
  | .xor => some (.int k (k.wrap ((BitVec.ofInt k.bits a ^^^ BitVec.ofInt k.bits b).toNat)))
  | .andNot => some (.int k (k.wrap ((BitVec.ofInt k.bits a &&& ~~~ BitVec.ofInt k.bits b).toNat)))
  | .eql => some (.bool (a == b))
  | .neq => some (.bool (a != b))
  | .lss => some (.bool (decide (a < b)))
  | .leq => some (.bool (decide (a ≤ b)))
  | .gtr => some (.bool (decide (b < a)))
  | .geq => some (.bool (decide (b ≤ a)))
  | _ => none

def intShift (op : BinOp) (k : IntKind) (a b : Int) : Option AV := bif decide (b < 0) then none else match op with
  | .shl => some (.int k (k.wrap (a * 2 ^ (Nat.min b.toNat k.bits))))
  | .shr => some (.int k (a.fdiv (2 ^ (Nat.min b.toNat k.bits))))
  | _ => none

def isShift : BinOp → Bool
  | .shl | .shr => true
  | _ => false

def intBin (op : BinOp) (k : IntKind) (a : Int) (k' : IntKind) (b : Int) : Option AV :=
  bif isShift op then intShift op k a b else bif decide (k = k') then intOne op k a b else none

theorem bif_some {α : Type} {x : Bool} {p q : Option α} {r : α} (h : (bif x then p else q) = some r) : (x = true ∧ p = some r) ∨ (x = false ∧ q = some r) := by
  cases x
  · exact .inr ⟨rfl, h⟩
  · exact .inl ⟨rfl, h⟩

theorem intOne_run {op : BinOp} {k : IntKind} {a b : Int} {v : AV} (hs : isShift op = false) (h : intOne op k a b = some v) (t : TypeId) (ρ : Ren) : ∃ v', conc ρ v = some v' ∧ ∀ w, (binOp op t (.int k a) (.int k b)).run P w = .ok v' w := by
  cases op <;> simp only [intOne] at h
  case shl => cases h
  case shr => cases h
  case quo =>
    rcases bif_some h with ⟨_, h⟩ | ⟨c, h⟩
    · cases h
    · cases h; simp at c; exact ⟨_, rfl, fun w => by simp [binOp, Op.intDiv, c]⟩
  case rem =>
    rcases bif_some h with ⟨_, h⟩ | ⟨c, h⟩
    · cases h
    · cases h; simp at c; exact ⟨_, rfl, fun w => by simp [binOp, Op.intDiv, c]⟩
  case add => cases h; exact ⟨_, rfl, fun w => by simp [binOp, Op.intArith]⟩
  case sub => cases h; exact ⟨_, rfl, fun w => by simp [binOp, Op.intArith]⟩
  case mul => cases h; exact ⟨_, rfl, fun w => by simp [binOp, Op.intArith]⟩
  case and => cases h; exact ⟨_, rfl, fun w => by simp only [binOp, Op.intBits]; simp⟩
  case or => cases h; exact ⟨_, rfl, fun w => by simp only [binOp, Op.intBits]; simp⟩
  case xor => cases h; exact ⟨_, rfl, fun w => by simp only [binOp, Op.intBits]; simp⟩
  case andNot => cases h; exact ⟨_, rfl, fun w => by simp only [binOp, Op.intBits]; simp⟩
  case eql => cases h; exact ⟨_, rfl, fun w => by simp [binOp, Op.intCmp]⟩
  case neq => cases h; exact ⟨_, rfl, fun w => by simp [binOp, Op.intCmp]⟩
  case lss => cases h; exact ⟨_, rfl, fun w => by simp [binOp, Op.intCmp]⟩
  case leq => cases h; exact ⟨_, rfl, fun w => by simp [binOp, Op.intCmp]⟩
  case gtr => cases h; exact ⟨_, rfl, fun w => by simp [binOp, Op.intCmp]⟩
  case geq => cases h; exact ⟨_, rfl, fun w => by simp [binOp, Op.intCmp]⟩
  all_goals cases h

theorem intShift_run {op : BinOp} {k k' : IntKind} {a b : Int} {v : AV} (h : intShift op k a b = some v) (t : TypeId) (ρ : Ren) : ∃ v', conc ρ v = some v' ∧ ∀ w, (binOp op t (.int k a) (.int k' b)).run P w = .ok v' w := by
  unfold intShift at h
  rcases bif_some h with ⟨_, h⟩ | ⟨c, h⟩
  · cases h
  · simp at c
    cases op <;> simp only at h
    case shl => cases h; exact ⟨_, rfl, fun w => by simp [binOp, Op.shift, Int.not_lt.2 c, Nat.min_def]⟩
    case shr => cases h; exact ⟨_, rfl, fun w => by simp [binOp, Op.shift, Int.not_lt.2 c, Nat.min_def]⟩
    all_goals cases h

theorem intBin_run {op : BinOp} {k k' : IntKind} {a b : Int} {v : AV} (h : intBin op k a k' b = some v) (t : TypeId) (ρ : Ren) : ∃ v', conc ρ v = some v' ∧ ∀ w, (binOp op t (.int k a) (.int k' b)).run P w = .ok v' w := by
  unfold intBin at h
  rcases bif_some h with ⟨_, h⟩ | ⟨c, h⟩
  · exact intShift_run h t ρ
  · rcases bif_some h with ⟨d, h2⟩ | ⟨_, h2⟩
    · clear h; simp only [decide_eq_true_eq] at d; subst d; exact intOne_run c h2 t ρ
    · cases h2

def strBin (op : BinOp) (a b : List UInt8) : Option AV := match op with
  | .add => bif Nat.ble (a.length + b.length) 9223372036854775807 then some (.str (a ++ b)) else none
  | .eql => some (.bool (a == b))
  | .neq => some (.bool (!(a == b)))
  | .lss => some (.bool (Op.bytesLess a b))
  | .leq => some (.bool (Op.bytesLess a b || a == b))
  | .gtr => some (.bool (!(Op.bytesLess a b || a == b)))
  | .geq => some (.bool (!Op.bytesLess a b))
  | _ => none

theorem strBin_run {op : BinOp} {a b : List UInt8} {v : AV} (h : strBin op a b = some v) (t : TypeId) (ρ : Ren) : ∃ v', conc ρ v = some v' ∧ ∀ w, (binOp op t (.string ⟨a.toArray⟩) (.string ⟨b.toArray⟩)).run P w = .ok v' w := by
  cases op <;> simp only [strBin] at h
  case add =>
    cases hc : Nat.ble (a.length + b.length) 9223372036854775807 with
    | false => rw [hc] at h; cases h
    | true =>
      rw [hc] at h; simp only [cond_true, Option.some.injEq] at h; subst h
      refine ⟨_, rfl, fun w => ?_⟩
      have hle := ble_le hc
      have := run_string_add_sum (P := P) (w := w) ⟨a.toArray⟩ ⟨b.toArray⟩ (by simpa [ByteArray.size] using hle)
      simp only [binOp]
      rw [this]
      congr 2
  case eql => cases h; exact ⟨_, rfl, fun w => by simp [binOp, Op.stringOp]⟩
  case neq => cases h; exact ⟨_, rfl, fun w => by simp [binOp, Op.stringOp]⟩
  case lss => cases h; exact ⟨_, rfl, fun w => by simp [binOp, Op.stringOp]⟩
  case leq => cases h; exact ⟨_, rfl, fun w => by simp [binOp, Op.stringOp]⟩
  case gtr => cases h; exact ⟨_, rfl, fun w => by simp [binOp, Op.stringOp]⟩
  case geq => cases h; exact ⟨_, rfl, fun w => by simp [binOp, Op.stringOp]⟩
  all_goals cases h

end Go.Am
/- An abstract machine for the model's code, part 6: operations that leave memory as it is: comparisons, reads, slices, literals. -/
namespace Go.Am
open Go Go.RowKit

variable {E : Env} {P : Program} {B : Nat} {W : World} {G : Nat} {ρ : Ren} {H : AHeap} {w : World}

/-- The parts of what an abstract value stands for. -/
theorem conc_ptr {i o : Nat} {v' : Value} (h : conc ρ (.ptr i o) = some v') : ∃ l, ρ i = some l ∧ v' = .pointer (some ⟨l.b, l.base + o, none⟩) := by
  simp only [conc] at h
  split at h
  · rename_i l hl; exact ⟨l, hl, by cases h; rfl⟩
  · cases h
theorem conc_slice {i o n : Nat} {c : ACap} {v' : Value} (h : conc ρ (.slice i o n c) = some v') : ∃ l, ρ i = some l ∧ v' = .slice (some ⟨l.b, l.base + o, none⟩) n (c.conc l) := by
  simp only [conc] at h
  split at h
  · rename_i l hl; exact ⟨l, hl, by cases h; rfl⟩
  · cases h
theorem conc_sl0 {i o1 o2 eo : Nat} {v' : Value} (h : conc ρ (.sl0 i o1 o2 eo) = some v') : ∃ l, ρ i = some l ∧ v' = .slice (some ⟨l.b, l.base + (bif Nat.beq (l.C - eo) 0 then o1 else o2), none⟩) 0 (l.C - eo) := by
  simp only [conc] at h
  split at h
  · rename_i l hl; exact ⟨l, hl, by cases h; rfl⟩
  · cases h
theorem conc_map {i : Nat} {v' : Value} (h : conc ρ (.map i) = some v') : ∃ l, ρ i = some l ∧ v' = .map (some l.b) := by
  simp only [conc] at h
  split at h
  · rename_i l hl; exact ⟨l, hl, by cases h; rfl⟩
  · cases h
theorem conc_yield {i : Nat} {v' : Value} (h : conc ρ (.yield i) = some v') : ∃ l, ρ i = some l ∧ v' = .func (.yield l.b) #[] #[] := by
  simp only [conc] at h
  split at h
  · rename_i l hl; exact ⟨l, hl, by cases h; rfl⟩
  · cases h
theorem conc_func {fn : Fn} {f c : List AV} {v' : Value} (h : conc ρ (.func fn f c) = some v') : ∃ a b, concL ρ f = some a ∧ concL ρ c = some b ∧ v' = .func fn a.toArray b.toArray := by
  simp only [conc] at h
  split at h
  · rename_i a b ha hb; exact ⟨a, b, ha, hb, by cases h; rfl⟩
  · cases h
theorem conc_iface {t : TypeId} {x : AV} {v' : Value} (h : conc ρ (.iface t x) = some v') : ∃ a, conc ρ x = some a ∧ v' = .iface t a := by
  simp only [conc] at h
  split at h
  · rename_i a ha; exact ⟨a, ha, by cases h; rfl⟩
  · cases h
theorem conc_agg {x : List AV} {v' : Value} (h : conc ρ (.agg x) = some v') : ∃ a, concL ρ x = some a ∧ v' = .agg a.toArray := by
  simp only [conc] at h
  split at h
  · rename_i a ha; exact ⟨a, ha, by cases h; rfl⟩
  · cases h
theorem conc_tuple {x : List AV} {v' : Value} (h : conc ρ (.tuple x) = some v') : ∃ a, concL ρ x = some a ∧ v' = .tuple a.toArray := by
  simp only [conc] at h
  split at h
  · rename_i a ha; exact ⟨a, ha, by cases h; rfl⟩
  · cases h
theorem conc_int {k : IntKind} {n : Int} {v' : Value} (h : conc ρ (.int k n) = some v') : v' = .int k n := by simp only [conc, Option.some.injEq] at h; exact h.symm
theorem conc_bool {b : Bool} {v' : Value} (h : conc ρ (.bool b) = some v') : v' = .bool b := by simp only [conc, Option.some.injEq] at h; exact h.symm
theorem conc_str {s : List UInt8} {v' : Value} (h : conc ρ (.str s) = some v') : v' = .string ⟨s.toArray⟩ := by simp only [conc, Option.some.injEq] at h; exact h.symm
theorem conc_nilptr {v' : Value} (h : conc ρ .nilptr = some v') : v' = .pointer none := by simp only [conc, Option.some.injEq] at h; exact h.symm
theorem conc_nilslice {v' : Value} (h : conc ρ .nilslice = some v') : v' = .slice none 0 0 := by simp only [conc, Option.some.injEq] at h; exact h.symm
theorem conc_nilmap {v' : Value} (h : conc ρ .nilmap = some v') : v' = .map none := by simp only [conc, Option.some.injEq] at h; exact h.symm
theorem conc_nilfunc {v' : Value} (h : conc ρ .nilfunc = some v') : v' = .nilFunc := by simp only [conc, Option.some.injEq] at h; exact h.symm
theorem conc_niliface {v' : Value} (h : conc ρ .niliface = some v') : v' = .nilIface := by simp only [conc, Option.some.injEq] at h; exact h.symm

/-- Is a pointer, a slice, a map, a function, an interface value nil? Two pointers into one block. -/
def aeq (d : TypeDesc) (nz : Bool) (kc : Bool) : AV → AV → Option Bool
  | .bool a, .bool b => match d with | .bool => some (a == b) | _ => none
  | .nilptr, .nilptr => match d with | .pointer _ => some true | _ => none
  | .nilptr, .ptr _ _ => match d with | .pointer _ => some false | _ => none
  | .ptr _ _, .nilptr => match d with | .pointer _ => some false | _ => none
  | .ptr i o, .ptr j p => match d with | .pointer _ => bif nz && Nat.beq i j then some (Nat.beq o p) else none | _ => none
  | .nilslice, .nilslice => match d with | .slice _ => some true | _ => none
  | .nilslice, .slice _ _ _ _ => match d with | .slice _ => some false | _ => none
  | .slice _ _ _ _, .nilslice => match d with | .slice _ => some false | _ => none
  | .nilmap, .nilmap => match d with | .map _ _ => some true | _ => none
  | .nilmap, .map _ => match d with | .map _ _ => some false | _ => none
  | .map _, .nilmap => match d with | .map _ _ => some false | _ => none
  | .nilfunc, .nilfunc => match d with | .func _ _ _ => some true | _ => none
  | .nilfunc, .func _ _ _ => match d with | .func _ _ _ => some false | _ => none
  | .func _ _ _, .nilfunc => match d with | .func _ _ _ => some false | _ => none
  | .niliface, .niliface => match d with | .interface _ => bif kc then some true else none | _ => none
  | .niliface, .iface _ _ => match d with | .interface _ => some false | _ => none
  | .iface _ _, .niliface => match d with | .interface _ => some false | _ => none
  | _, _ => none

def elemSize (E : Env) (d : TypeDesc) : Nat := match d with
  | .pointer e => match E.ty.get e with
    | some x => x.size
    | none => 0
  | _ => 0

def isK : Operand → Bool
  | .const _ => true
  | _ => false

def abin (E : Env) (op : BinOp) (t : TypeId) (kc : Bool) (x y : AV) : Option AV :=
  match x, y with
  | .int k a, .int k' b => intBin op k a k' b
  | .str a, .str b => strBin op a b
  | x, y => match E.ty.get t with
    | some i => match op with
      | .eql => (aeq i.desc (!(Nat.beq (elemSize E i.desc) 0)) kc x y).map .bool
      | .neq => (aeq i.desc (!(Nat.beq (elemSize E i.desc) 0)) kc x y).map fun b => .bool (!b)
      | _ => none
    | none => none

theorem addr_beq (b x o p : Nat) : ((⟨b, x + o, none⟩ : Addr) == ⟨b, x + p, none⟩) = Nat.beq o p := by
  by_cases h : o = p
  · subst h; simp
  · rw [T.beqf h]; simpa using h

theorem run_equalIn_ptr_same {d n : Nat} {t e : TypeId} (a b : Addr) (hu : P.underlying t = some (.pointer e)) (hs : ∀ w, (sizeOf e).run P w = .ok n w) (hn : n ≠ 0) (hb : a.block = b.block) :
    (Op.equalIn (d + 1) t (.pointer (some a)) (.pointer (some b))).run P w = .ok (a == b) w := by
  simp [Op.equalIn, run_underlying hu, hs, hn, sameAddr, hb]

theorem aeq_run (hE : E.Ok P) {t : TypeId} {i : TyI} (ht : E.ty.get t = some i) {kc : Bool} {x y : AV} {r : Bool} (h : aeq i.desc (!(Nat.beq (elemSize E i.desc) 0)) kc x y = some r)
    {x' y' : Value} (hx : conc ρ x = some x') (hy : conc ρ y = some y') :
    (∀ d w, (Op.equalIn (d + 1) t x' y').run P w = .ok r w) ∧ (∀ op xo yo, (kc = true → isK xo = true ∨ isK yo = true) → eqGuard op t xo yo x' y' = pure ()) ∧
    ((∀ w, (binOp .eql t x' y').run P w = ((Op.equal t x' y').run P w).andThen fun b w => .ok (.bool b) w) ∧ (∀ w, (binOp .neq t x' y').run P w = ((Op.equal t x' y').run P w).andThen fun b w => .ok (.bool (!b)) w)) := by
  have hu := (hE.ty t i ht).1
  unfold aeq at h
  split at h
  all_goals first
    | (cases h; done)
    | skip
  all_goals (split at h)
  all_goals first
    | (cases h; done)
    | skip
  · rename_i hd
    cases h; cases conc_bool hx; cases conc_bool hy
    exact ⟨fun d w => by simp [Op.equalIn, run_underlying hu, hd], fun op xo yo _ => by cases op <;> rfl, fun w => by simp [binOp], fun w => by simp [binOp]⟩
  · rename_i hd
    cases h; cases conc_nilptr hx; cases conc_nilptr hy
    exact ⟨fun d w => by simp [Op.equalIn, run_underlying hu, hd], fun op xo yo _ => by cases op <;> rfl, fun w => by simp [binOp], fun w => by simp [binOp]⟩
  · rename_i hd
    cases h; cases conc_nilptr hx; obtain ⟨l, _, rfl⟩ := conc_ptr hy
    exact ⟨fun d w => by simp [Op.equalIn, run_underlying hu, hd], fun op xo yo _ => by cases op <;> rfl, fun w => by simp [binOp], fun w => by simp [binOp]⟩
  · rename_i hd
    cases h; cases conc_nilptr hy; obtain ⟨l, _, rfl⟩ := conc_ptr hx
    exact ⟨fun d w => by simp [Op.equalIn, run_underlying hu, hd], fun op xo yo _ => by cases op <;> rfl, fun w => by simp [binOp], fun w => by simp [binOp]⟩
  · rename_i e hd
    rcases bif_some h with ⟨c, h2⟩ | ⟨_, h2⟩
    rotate_left
    · cases h2
    clear h
    cases h2
    simp only [Bool.and_eq_true, Bool.not_eq_true'] at c
    obtain ⟨c1, c2⟩ := c
    obtain rfl := Nat.eq_of_beq_eq_true c2
    obtain ⟨l, hl, rfl⟩ := conc_ptr hx
    obtain ⟨m, hm, rfl⟩ := conc_ptr hy
    rw [hl] at hm; cases hm
    rw [hd] at c1 hu
    simp only [elemSize] at c1
    cases he : E.ty.get e with
    | none => rw [he] at c1; simp at c1
    | some xe =>
      rw [he] at c1
      have hne : xe.size ≠ 0 := fun h0 => by simp [h0] at c1
      refine ⟨fun d w => ?_, fun op xo yo _ => by cases op <;> rfl, fun w => by simp [binOp], fun w => by simp [binOp]⟩
      refine (run_equalIn_ptr_same _ _ hu (fun w => hE.size he w) hne (by rfl)).trans ?_
      exact congrArg (Result.ok · w) (addr_beq _ _ _ _)
  · rename_i hd
    cases h; cases conc_nilslice hx; cases conc_nilslice hy
    exact ⟨fun d w => by simp [Op.equalIn, run_underlying hu, hd], fun op xo yo _ => by cases op <;> rfl, fun w => by simp [binOp], fun w => by simp [binOp]⟩
  · rename_i hd
    cases h; cases conc_nilslice hx; obtain ⟨l, _, rfl⟩ := conc_slice hy
    exact ⟨fun d w => by simp [Op.equalIn, run_underlying hu, hd], fun op xo yo _ => by cases op <;> rfl, fun w => by simp [binOp], fun w => by simp [binOp]⟩
  · rename_i hd
    cases h; cases conc_nilslice hy; obtain ⟨l, _, rfl⟩ := conc_slice hx
    exact ⟨fun d w => by simp [Op.equalIn, run_underlying hu, hd], fun op xo yo _ => by cases op <;> rfl, fun w => by simp [binOp], fun w => by simp [binOp]⟩
  · rename_i hd
    cases h; cases conc_nilmap hx; cases conc_nilmap hy
    exact ⟨fun d w => by simp [Op.equalIn, run_underlying hu, hd], fun op xo yo _ => by cases op <;> rfl, fun w => by simp [binOp], fun w => by simp [binOp]⟩
  · rename_i hd
    cases h; cases conc_nilmap hx; obtain ⟨l, _, rfl⟩ := conc_map hy
    exact ⟨fun d w => by simp [Op.equalIn, run_underlying hu, hd], fun op xo yo _ => by cases op <;> rfl, fun w => by simp [binOp], fun w => by simp [binOp]⟩
  · rename_i hd
    cases h; cases conc_nilmap hy; obtain ⟨l, _, rfl⟩ := conc_map hx
    exact ⟨fun d w => by simp [Op.equalIn, run_underlying hu, hd], fun op xo yo _ => by cases op <;> rfl, fun w => by simp [binOp], fun w => by simp [binOp]⟩
  · rename_i hd
    cases h; cases conc_nilfunc hx; cases conc_nilfunc hy
    exact ⟨fun d w => by simp [Op.equalIn, run_underlying hu, hd], fun op xo yo _ => by cases op <;> rfl, fun w => by simp [binOp], fun w => by simp [binOp]⟩
  · rename_i hd
    cases h; cases conc_nilfunc hx; obtain ⟨a, b, _, _, rfl⟩ := conc_func hy
    exact ⟨fun d w => by simp [Op.equalIn, run_underlying hu, hd], fun op xo yo _ => by cases op <;> rfl, fun w => by simp [binOp], fun w => by simp [binOp]⟩
  · rename_i hd
    cases h; cases conc_nilfunc hy; obtain ⟨a, b, _, _, rfl⟩ := conc_func hx
    exact ⟨fun d w => by simp [Op.equalIn, run_underlying hu, hd], fun op xo yo _ => by cases op <;> rfl, fun w => by simp [binOp], fun w => by simp [binOp]⟩
  · rename_i hd
    rcases bif_some h with ⟨c, h2⟩ | ⟨_, h2⟩
    rotate_left
    · cases h2
    clear h
    cases h2; cases conc_niliface hx; cases conc_niliface hy
    refine ⟨fun d w => by simp [Op.equalIn, run_underlying hu, hd], fun op xo yo hk => ?_, fun w => by simp [binOp], fun w => by simp [binOp]⟩
    rcases hk c with hk | hk
    · cases xo <;> first | (cases op <;> rfl) | (simp [isK] at hk)
    · cases yo <;> first | (cases op <;> cases xo <;> rfl) | (simp [isK] at hk)
  · rename_i hd
    cases h; cases conc_niliface hx; obtain ⟨a, _, rfl⟩ := conc_iface hy
    exact ⟨fun d w => by simp [Op.equalIn, run_underlying hu, hd], fun op xo yo _ => by cases op <;> rfl, fun w => by simp [binOp], fun w => by simp [binOp]⟩
  · rename_i hd
    cases h; cases conc_niliface hy; obtain ⟨a, _, rfl⟩ := conc_iface hx
    exact ⟨fun d w => by simp [Op.equalIn, run_underlying hu, hd], fun op xo yo _ => by cases op <;> rfl, fun w => by simp [binOp], fun w => by simp [binOp]⟩

theorem eqGuard_int (op : BinOp) (t : TypeId) (x y : Operand) (k k' : IntKind) (a b : Int) : eqGuard op t x y (.int k a) (.int k' b) = pure () := by cases op <;> rfl
theorem eqGuard_str (op : BinOp) (t : TypeId) (x y : Operand) (a b : ByteArray) : eqGuard op t x y (.string a) (.string b) = pure () := by cases op <;> rfl

theorem abin_run (hE : E.Ok P) {op : BinOp} {t : TypeId} {xo yo : Operand} {x y v : AV} (h : abin E op t (isK xo || isK yo) x y = some v) {x' y' : Value} (hx : conc ρ x = some x') (hy : conc ρ y = some y') :
    ∃ v', conc ρ v = some v' ∧ ∀ w, (do eqGuard op t xo yo x' y'; binOp op t x' y' : Sem Value).run P w = .ok v' w := by
  unfold abin at h
  split at h
  · cases conc_int hx; cases conc_int hy
    obtain ⟨v', a, b⟩ := intBin_run (P := P) h t ρ
    exact ⟨v', a, fun w => by rw [eqGuard_int]; simpa using b w⟩
  · cases conc_str hx; cases conc_str hy
    obtain ⟨v', a, b⟩ := strBin_run (P := P) h t ρ
    exact ⟨v', a, fun w => by rw [eqGuard_str]; simpa using b w⟩
  · split at h
    rotate_left
    · cases h
    rename_i i hi
    split at h
    · cases hq : aeq i.desc (!(Nat.beq (elemSize E i.desc) 0)) (isK xo || isK yo) x y with
      | none => rw [hq] at h; cases h
      | some r =>
        rw [hq] at h; simp only [Option.map_some, Option.some.injEq] at h; subst h
        obtain ⟨h1, h2, h3, _⟩ := aeq_run hE hi hq hx hy
        refine ⟨_, rfl, fun w => ?_⟩
        rw [h2 _ _ _ (fun k => by simpa using k)]
        have h1' : (Op.equal t x' y').run P w = .ok r w := h1 9999 w
        simp only [Sem.run_bind, Sem.run_pure, Result.andThen_ok, h3, h1']
    · cases hq : aeq i.desc (!(Nat.beq (elemSize E i.desc) 0)) (isK xo || isK yo) x y with
      | none => rw [hq] at h; cases h
      | some r =>
        rw [hq] at h; simp only [Option.map_some, Option.some.injEq] at h; subst h
        obtain ⟨h1, h2, _, h3⟩ := aeq_run hE hi hq hx hy
        refine ⟨_, rfl, fun w => ?_⟩
        rw [h2 _ _ _ (fun k => by simpa using k)]
        have h1' : (Op.equal t x' y').run P w = .ok r w := h1 9999 w
        simp only [Sem.run_bind, Sem.run_pure, Result.andThen_ok, h3, h1']
    · cases h

end Go.Am
/- An abstract machine for the model's code, part 7: reads, slices, elements, literals. -/
namespace Go.Am
open Go Go.RowKit

variable {E : Env} {P : Program} {B : Nat} {W : World} {G : Nat} {ρ : Ren} {H : AHeap} {w : World}

theorem blt_lt {a b : Nat} (h : Nat.blt a b = true) : a < b := Nat.le_of_ble_eq_true h

/-- A variable read. -/
def aload (E : Env) (H : AHeap) (t : TypeId) : AV → Option AV
  | .ptr i o => match H.get i, E.ty.get t with
    | .row cs _ _ _ _ _ _ _ _, some x => bif x.isAgg then (bif Nat.ble (o + x.size) cs.length then some (.agg ((cs.drop o).take x.size)) else none) else cs[o]?
    | .tab cs, some x => bif x.isAgg then none else cs[o]?
    | _, _ => none
  | _ => none

theorem run_load_some (P : Program) (w : World) (a : Addr) (v : Value) (h : w.cell? a = some v) : (load a).run P w = .ok v w := by
  simp [h]

theorem loadVar_run (hE : E.Ok P) (hR : Rel B W G ρ H w) {t : TypeId} {i o : Nat} {v : AV} (h : aload E H t (.ptr i o) = some v) {l : Loc} (hl : ρ i = some l) :
    ∃ v', conc ρ v = some v' ∧ (loadVar t ⟨l.b, l.base + o, none⟩).run P w = .ok v' w := by
  simp only [aload] at h
  split at h
  rotate_left
  · rename_i cs x hr ht
    rcases bif_some h with ⟨_, h2⟩ | ⟨c, h2⟩
    · cases h2
    have ho := hR.obj i l hl
    rw [hr] at ho
    obtain ⟨o1, o2⟩ := ho
    obtain ⟨v', a, b⟩ := o2 o v h2
    refine ⟨v', a, ?_⟩
    rw [o1, Nat.zero_add]
    simp only [loadVar, Sem.run_bind, hE.isAgg ht w, Result.andThen_ok, c]
    simp [b]
  · cases h
  rename_i cs el sz fz gr mk own ro st x hr ht
  rcases bif_some h with ⟨c, h2⟩ | ⟨c, h2⟩
  · rcases bif_some h2 with ⟨c2, h3⟩ | ⟨_, h3⟩
    · cases h3
      obtain ⟨vs', a, b, _, d⟩ := hR.loads (P := P) hl hr o x.size (ble_le c2)
      refine ⟨.agg vs'.toArray, by simp [conc, a], ?_⟩
      simp only [loadVar, Sem.run_bind, hE.isAgg ht w, Result.andThen_ok, c, if_true, hE.size ht w, d, Sem.run_pure]
    · cases h3
  · obtain ⟨v', a, b⟩ := hR.load hl hr h2
    refine ⟨v', a, ?_⟩
    simp only [loadVar, Sem.run_bind, hE.isAgg ht w, Result.andThen_ok, c]
    simp [b]

/-- A natural number. -/
def natOf : AV → Option Nat
  | .int _ (.ofNat n) => some n
  | _ => none

theorem natOf_conc {v : AV} {n : Nat} (h : natOf v = some n) {v' : Value} (hv : conc ρ v = some v') : ∃ k, v' = .int k (n : Int) := by
  unfold natOf at h
  split at h
  · rename_i k m; cases h; exact ⟨k, conc_int hv⟩
  · cases h

/-- Three bounds: each may be left out. -/
def abound (o : Option AV) (d : Nat) : Option Nat := match o with
  | none => some d
  | some v => natOf v

/-- low, high, max, each given or not, as numbers. -/
structure Bds where
  l : Nat
  h : Nat
  m : Nat

def abounds (len cap : Nat) (lo hi mx : Option AV) : Option Bds :=
  match abound mx cap, abound hi len, abound lo 0 with
  | some m, some h, some l => bif Nat.ble l h && Nat.ble h m && Nat.ble m cap && (match hi, mx with | none, some _ => false | _, _ => true) then some ⟨l, h, m⟩ else none
  | _, _, _ => none

def concO (ρ : Ren) (o : Option AV) (o' : Option Value) : Prop := match o, o' with
  | none, none => True
  | some v, some v' => conc ρ v = some v'
  | _, _ => False

theorem sb_run {v : AV} {n y : Nat} (h : natOf v = some n) (hle : n ≤ y) (code : BoundsCode) {v' : Value} (hv : conc ρ v = some v') (w : World) : (Instr.sliceBound v' y code).run P w = .ok n w := by
  obtain ⟨k, rfl⟩ := natOf_conc h hv
  rw [run_sliceBound w k n y code (by omega) (by omega)]
  simp

theorem concO_none {o' : Option Value} (h : concO ρ none o') : o' = none := by cases o' <;> first | rfl | exact h.elim
theorem concO_some {v : AV} {o' : Option Value} (h : concO ρ (some v) o') : ∃ v', o' = some v' ∧ conc ρ v = some v' := by
  cases o' with
  | none => exact h.elim
  | some v' => exact ⟨v', rfl, h⟩

theorem abounds_run {len cap : Nat} {lo hi mx : Option AV} {b : Bds} (h : abounds len cap lo hi mx = some b) {lo' hi' mx' : Option Value} (h1 : concO ρ lo lo') (h2 : concO ρ hi hi') (h3 : concO ρ mx mx') (s : Bool) (w : World) :
    (Instr.sliceBounds s len cap lo' hi' mx').run P w = .ok (b.l, b.h, b.m) w ∧ b.l ≤ b.h ∧ b.h ≤ b.m ∧ b.m ≤ cap ∧ (mx = none → b.m = cap) ∧ (lo = none → b.l = 0) := by
  unfold abounds at h
  split at h
  rotate_left
  · cases h
  rename_i m hh l hm hhi hlo
  rcases bif_some h with ⟨c, h4⟩ | ⟨_, h4⟩
  rotate_left
  · cases h4
  cases h4
  simp only [Bool.and_eq_true] at c
  obtain ⟨⟨⟨c1, c2⟩, c3⟩, c4⟩ := c
  have c1 := ble_le c1
  have c2 := ble_le c2
  have c3 := ble_le c3
  refine ⟨?_, c1, c2, c3, fun e => (by subst e; simpa [abound] using hm.symm), fun e => (by subst e; simpa [abound] using hlo.symm)⟩
  have hlow : ∀ (code : BoundsCode), (match lo' with | some v => Instr.sliceBound v hh code | none => (pure 0 : Sem Nat)).run P w = .ok l w := by
    intro code
    cases lo with
    | none => cases concO_none h1; simp [abound] at hlo; subst hlo; rfl
    | some v => obtain ⟨v', rfl, hv⟩ := concO_some h1; exact sb_run hlo c1 code hv w
  cases mx with
  | none =>
    cases concO_none h3
    simp [abound] at hm; subst hm
    cases hi with
    | none =>
      cases concO_none h2
      simp [abound] at hhi; subst hhi
      simp only [Instr.sliceBounds, Sem.run_bind, Sem.run_pure, Result.andThen_ok]
      have := hlow .sliceB
      cases lo' with
      | none => simp only [Sem.run_pure, Result.ok.injEq] at this; simp [this.1]
      | some v => simp only at this; simp [this]
    | some v =>
      obtain ⟨v', rfl, hv⟩ := concO_some h2
      have hb := sb_run (P := P) hhi c2 (if s then .sliceAcap else .sliceAlen) hv w
      simp only [Instr.sliceBounds, Sem.run_bind, Sem.run_pure, Result.andThen_ok, hb]
      have := hlow .sliceB
      cases lo' with
      | none => simp only [Sem.run_pure, Result.ok.injEq] at this; simp [this.1]
      | some v => simp only at this; simp [this]
  | some vm =>
    obtain ⟨vm', rfl, hvm⟩ := concO_some h3
    have hbm := sb_run (P := P) hm c3 (if s then .slice3Acap else .slice3Alen) hvm w
    cases hi with
    | none => simp at c4
    | some v =>
      obtain ⟨v', rfl, hv⟩ := concO_some h2
      have hb := sb_run (P := P) hhi c2 .slice3B hv w
      simp only [Instr.sliceBounds, Sem.run_bind, Sem.run_pure, Result.andThen_ok, hb, hbm]
      have := hlow .slice3C
      cases lo' with
      | none => simp only [Sem.run_pure, Result.ok.injEq] at this; simp [this.1]
      | some v => simp only at this; simp [this]

/-- A part of a string, of a slice, of an array. -/
def asl (E : Env) (H : AHeap) (t : TypeId) (x : AV) (lo hi mx : Option AV) : Option AV :=
  match E.ty.get t with
  | none => none
  | some i => match i.desc, x with
    | .string, .str s => match mx with
      | some _ => none
      | none => match abounds s.length s.length lo hi none with
        | some b => some (.str ((s.drop b.l).take (b.h - b.l)))
        | none => none
    | .slice e, .nilslice => match abounds 0 0 lo hi mx, E.ty.get e with
      | some _, some _ => some .nilslice
      | _, _ => none
    | .slice e, .slice id o len (.known c) => match abounds len c lo hi mx, E.ty.get e with
      | some b, some y => some (.slice id (bif Nat.beq b.m b.l then o else o + b.l * y.size) (b.h - b.l) (.known (b.m - b.l)))
      | _, _ => none
    | .slice e, .slice id o len (.rest eo) => match H.get id, E.ty.get e with
      | .row cs _ sz _ true _ _ _ _, some y => bif Nat.beq o (eo * sz) && Nat.ble (o + len * sz) cs.length && Nat.blt 0 sz && Nat.beq sz y.size then
          (match mx with
            | some _ => match abounds len len lo hi mx with
              | some b => some (.slice id (bif Nat.beq b.m b.l then o else o + b.l * y.size) (b.h - b.l) (.known (b.m - b.l)))
              | none => none
            | none => match abounds len len lo hi none with
              | some b => bif Nat.blt b.l len || Nat.beq b.l 0 then some (.slice id (o + b.l * sz) (b.h - b.l) (.rest (eo + b.l))) else some (.sl0 id o (o + b.l * sz) (eo + b.l))
              | none => none)
          else none
      | _, _ => none
    | .array n e, .ptr id o => match abounds n n lo hi mx, E.ty.get e with
      | some b, some y => some (.slice id (bif Nat.beq b.m b.l then o else o + b.l * y.size) (b.h - b.l) (.known (b.m - b.l)))
      | _, _ => none
    | _, _ => none

theorem if_beq {m l : Nat} {o k : Nat} {b base : Nat} : (if m = l then (⟨b, base + o, none⟩ : Addr) else (⟨b, base + o, none⟩ : Addr).add k) = ⟨b, base + (bif Nat.beq m l then o else o + k), none⟩ := by
  by_cases h : m = l
  · subst h; simp
  · rw [if_neg h, T.beqf h, addr_add]; simp [Nat.add_assoc]

/-- Bounds that hold against a lesser capacity hold against a greater one. -/
theorem abounds_more {len cap cap' : Nat} {lo hi mx : Option AV} {b : Bds} (h : abounds len cap lo hi mx = some b) (hc : cap ≤ cap') :
    ∃ b', abounds len cap' lo hi mx = some b' ∧ b'.l = b.l ∧ b'.h = b.h ∧ (mx ≠ none → b'.m = b.m) := by
  unfold abounds at h ⊢
  cases hm : abound mx cap with
  | none => rw [hm] at h; cases h
  | some m =>
    cases hhi : abound hi len with
    | none => rw [hm, hhi] at h; cases h
    | some hh =>
      cases hlo : abound lo 0 with
      | none => rw [hm, hhi, hlo] at h; cases h
      | some l =>
        rw [hm, hhi, hlo] at h
        simp only at h
        rcases bif_some h with ⟨c, h4⟩ | ⟨_, h4⟩
        rotate_left
        · cases h4
        cases h4
        simp only [Bool.and_eq_true] at c
        obtain ⟨⟨⟨c1, c2⟩, c3⟩, c4⟩ := c
        have c2' := ble_le c2
        have c3' := ble_le c3
        cases mx with
        | none =>
          simp [abound] at hm; subst hm
          refine ⟨⟨l, hh, cap'⟩, ?_, rfl, rfl, fun k => absurd rfl k⟩
          simp only [abound]
          rw [c1, Nat.ble_eq_true_of_le (Nat.le_trans c2' hc), Nat.ble_eq_true_of_le (Nat.le_refl cap')]
          cases hi <;> rfl
        | some v =>
          refine ⟨⟨l, hh, m⟩, ?_, rfl, rfl, fun _ => rfl⟩
          have : abound (some v) cap' = some m := hm
          rw [this]
          simp only
          rw [c1, c2, Nat.ble_eq_true_of_le (Nat.le_trans c3' hc), c4]
          rfl

theorem asl_run (hE : E.Ok P) (hR : Rel B W G ρ H w) {t : TypeId} {x v : AV} {lo hi mx : Option AV} (h : asl E H t x lo hi mx = some v) {x' : Value} (hx : conc ρ x = some x')
    {lo' hi' mx' : Option Value} (h1 : concO ρ lo lo') (h2 : concO ρ hi hi') (h3 : concO ρ mx mx') : ∃ v', conc ρ v = some v' ∧ (Instr.sliceAt t x' lo' hi' mx').run P w = .ok v' w := by
  unfold asl at h
  split at h
  · cases h
  rename_i i hi'
  have hu := (hE.ty t i hi').1
  split at h
  · -- a string
    rename_i s hd
    rw [hd] at hu
    split at h
    · cases h
    cases concO_none h3
    split at h
    rotate_left
    · cases h
    rename_i b hb
    cases h
    cases conc_str hx
    obtain ⟨r, q1, q2, q3, _⟩ := abounds_run (P := P) hb h1 h2 (show concO ρ none none from trivial) false w
    refine ⟨_, rfl, ?_⟩
    simp only [Instr.sliceAt, Sem.run_bind, run_underlying hu, Result.andThen_ok, Instr.slice]
    simp only [Option.isSome_none, Bool.false_eq_true, if_false, Sem.run_bind, ByteArray.size, List.size_toArray, r, Result.andThen_ok, Sem.run_pure, ByteArray.extract_mk]
  · -- nil
    rename_i e hd
    rw [hd] at hu
    split at h
    rotate_left
    · cases h
    rename_i b y hb hy
    cases h
    cases conc_nilslice hx
    obtain ⟨r, q1, q2, q3, _⟩ := abounds_run (P := P) hb h1 h2 h3 true w
    refine ⟨_, rfl, ?_⟩
    have e1 : b.m = 0 := by omega
    have e2 : b.h = 0 := by omega
    have e3 : b.l = 0 := by omega
    simp only [Instr.sliceAt, Sem.run_bind, run_underlying hu, Result.andThen_ok, Instr.slice, r, hE.size hy w, Sem.run_pure, e1, e2, e3]
    simp
  · -- a slice whose capacity is known
    rename_i e id o len c hd
    rw [hd] at hu
    split at h
    rotate_left
    · cases h
    rename_i b y hb hy
    cases h
    obtain ⟨l, hl, rfl⟩ := conc_slice hx
    obtain ⟨r, q1, q2, q3, _⟩ := abounds_run (P := P) hb h1 h2 h3 true w
    refine ⟨_, by simp only [conc, hl]; rfl, ?_⟩
    simp only [Instr.sliceAt, Sem.run_bind, run_underlying hu, Result.andThen_ok, Instr.slice, ACap.conc, r, hE.size hy w, Sem.run_pure]
    rw [← if_beq]
    by_cases hm : b.m = b.l <;> simp [hm]
  · -- a slice whose capacity is not known
    rename_i e id o len eo hd
    rw [hd] at hu
    split at h
    rotate_left
    · cases h
    rename_i cs el sz fz mk own ro st y hr hy
    rcases bif_some h with ⟨c, h4⟩ | ⟨_, h4⟩
    rotate_left
    · cases h4
    clear h
    simp only [Bool.and_eq_true] at c
    obtain ⟨⟨⟨c1, c2⟩, c3⟩, c4⟩ := c
    obtain rfl := Nat.eq_of_beq_eq_true c1
    have c2 := ble_le c2
    have c3 : 0 < sz := blt_lt c3
    obtain rfl := Nat.eq_of_beq_eq_true c4
    obtain ⟨l, hl, rfl⟩ := conc_slice hx
    have ho := hR.obj id l hl
    rw [hr] at ho
    obtain ⟨c, fr, k1, k2, k3, k4, k5, k6, _⟩ := ho
    have hcap : eo + len ≤ l.C := by
      have e1 : (eo + len) * y.size ≤ l.C * y.size := by rw [Nat.add_mul]; have := k6 rfl; omega
      exact Nat.le_of_mul_le_mul_right e1 c3
    split at h4
    · rename_i vm
      split at h4
      rotate_left
      · cases h4
      rename_i b hb
      cases h4
      obtain ⟨b', hb', e1, e2, e3⟩ := abounds_more hb (cap' := l.C - eo) (by omega)
      obtain ⟨r, q1, q2, q3, _⟩ := abounds_run (P := P) hb' h1 h2 h3 true w
      rw [e1, e2, e3 (by simp)] at r
      refine ⟨_, by simp only [conc, hl]; rfl, ?_⟩
      simp only [Instr.sliceAt, Sem.run_bind, run_underlying hu, Result.andThen_ok, Instr.slice, ACap.conc, r, hE.size hy w, Sem.run_pure]
      rw [← if_beq]
      by_cases hm : b.m = b.l <;> simp [hm]
    · split at h4
      rotate_left
      · cases h4
      rename_i b hb
      rcases bif_some h4 with ⟨c5, h5⟩ | ⟨c5, h5⟩
      rotate_left
      · cases h5
        rw [Bool.or_eq_false_iff] at c5
        have hge : ¬ b.l < len := fun hc => by rw [show Nat.blt b.l len = true from by rw [Nat.blt, Nat.ble_eq]; exact hc] at c5; cases c5.1
        obtain ⟨b', hb', e1, e2, _⟩ := abounds_more hb (cap' := l.C - eo) (by omega)
        obtain ⟨r, q1, q2, q3, q4, _⟩ := abounds_run (P := P) hb' h1 h2 h3 true w
        obtain ⟨_, qb1, qb2, qb3, _⟩ := abounds_run (P := P) hb h1 h2 h3 true w
        rw [e1, e2, q4 rfl] at r
        have h00 : b.h - b.l = 0 := by omega
        refine ⟨_, by simp only [conc, hl]; rfl, ?_⟩
        simp only [Instr.sliceAt, Sem.run_bind, run_underlying hu, Result.andThen_ok, Instr.slice, ACap.conc, r, hE.size hy w, Sem.run_pure]
        have hcc : l.C - eo - b.l = l.C - (eo + b.l) := by omega
        rw [hcc, h00]
        by_cases hm : l.C - (eo + b.l) = 0
        · rw [if_pos (by omega)]
          simp [hm]
        · rw [if_neg (by omega)]
          have hb0 : Nat.beq (l.C - (eo + b.l)) 0 = false := T.beqf hm
          rw [hb0]
          simp [addr_add, Nat.add_assoc]
      cases h5
      obtain ⟨b', hb', e1, e2, _⟩ := abounds_more hb (cap' := l.C - eo) (by omega)
      obtain ⟨r, q1, q2, q3, q4, _⟩ := abounds_run (P := P) hb' h1 h2 h3 true w
      rw [e1, e2, q4 rfl] at r
      refine ⟨_, by simp only [conc, hl]; rfl, ?_⟩
      simp only [Instr.sliceAt, Sem.run_bind, run_underlying hu, Result.andThen_ok, Instr.slice, ACap.conc, r, hE.size hy w, Sem.run_pure]
      have hcc : l.C - eo - b.l = l.C - (eo + b.l) := by omega
      rw [hcc]
      by_cases h0 : b.l = 0
      · simp only [h0, Nat.zero_mul, Nat.add_zero]
        by_cases hm : l.C - eo = 0
        · simp [hm]
        · simp [hm, addr_add]
      · have hlt : b.l < len := by
          rcases Bool.or_eq_true_iff.1 c5 with k | k
          · exact blt_lt k
          · exact absurd (Nat.eq_of_beq_eq_true k) h0
        rw [if_neg (by omega)]
        simp [addr_add, Nat.add_assoc]
  · -- an array behind a pointer
    rename_i n e id o hd
    rw [hd] at hu
    split at h
    rotate_left
    · cases h
    rename_i b y hb hy
    cases h
    obtain ⟨l, hl, rfl⟩ := conc_ptr hx
    obtain ⟨r, q1, q2, q3, _⟩ := abounds_run (P := P) hb h1 h2 h3 false w
    refine ⟨_, by simp only [conc, hl]; rfl, ?_⟩
    simp only [Instr.sliceAt, Sem.run_bind, run_underlying hu, Result.andThen_ok, Instr.sureAddr, Sem.run_pure, r, hE.size hy w, ACap.conc]
    rw [← if_beq]
  · cases h

/-- An element's address. -/
def aindexAddr (E : Env) (t : TypeId) (x ix : AV) : Option AV :=
  match E.ty.get t, natOf ix with
  | some i, some n => match i.desc, x with
    | .array len e, .ptr id o => match E.ty.get e with
      | some y => bif Nat.blt n len then some (.ptr id (o + n * y.size)) else none
      | none => none
    | .slice e, .slice id o len _ => match E.ty.get e with
      | some y => bif Nat.blt n len then some (.ptr id (o + n * y.size)) else none
      | none => none
    | _, _ => none
  | _, _ => none

theorem aindexAddr_run (hE : E.Ok P) {t : TypeId} {x ix v : AV} (h : aindexAddr E t x ix = some v) {x' ix' : Value} (hx : conc ρ x = some x') (hi : conc ρ ix = some ix') (w : World) :
    ∃ v', conc ρ v = some v' ∧ (Instr.indexAt t x' ix').run P w = .ok v' w := by
  unfold aindexAddr at h
  split at h
  rotate_left
  · cases h
  rename_i i n ht hn
  have hu := (hE.ty t i ht).1
  obtain ⟨k, rfl⟩ := natOf_conc hn hi
  split at h
  · rename_i len e id o hd
    rw [hd] at hu
    split at h
    rotate_left
    · cases h
    rename_i y hy
    rcases bif_some h with ⟨c, h4⟩ | ⟨_, h4⟩
    rotate_left
    · cases h4
    cases h4
    have c := blt_lt c
    obtain ⟨l, hl, rfl⟩ := conc_ptr hx
    refine ⟨_, by simp only [conc, hl]; rfl, ?_⟩
    have hcond : (0 : Int) ≤ (n : Int) ∧ (n : Int) < (len : Int) := ⟨by omega, by omega⟩
    simp only [Instr.indexAt, asIntOf, Sem.run_bind, Sem.run_pure, Result.andThen_ok, run_underlying hu, Instr.sureAddr]
    simp [c, hE.size hy w, addr_add, Nat.add_assoc]
  · rename_i e id o len cp hd
    rw [hd] at hu
    split at h
    rotate_left
    · cases h
    rename_i y hy
    rcases bif_some h with ⟨c, h4⟩ | ⟨_, h4⟩
    rotate_left
    · cases h4
    cases h4
    have c := blt_lt c
    obtain ⟨l, hl, rfl⟩ := conc_slice hx
    refine ⟨_, by simp only [conc, hl]; rfl, ?_⟩
    simp only [Instr.indexAt, asIntOf, Sem.run_bind, Sem.run_pure, Result.andThen_ok, run_underlying hu]
    simp [c, hE.size hy w, addr_add, Nat.add_assoc]
  · cases h

/-- A part of a struct's or an array's cells. -/
def apart (x : TyI) (cs : List AV) (o : Nat) : Option AV :=
  bif x.isAgg then (bif Nat.ble (o + x.size) cs.length then some (.agg ((cs.drop o).take x.size)) else none) else cs[o]?

theorem extract_list {α : Type} (l : List α) (a n : Nat) : l.toArray.extract a (a + n) = ((l.drop a).take n).toArray := by
  simp

theorem apart_run (hE : E.Ok P) {t : TypeId} {x : TyI} (ht : E.ty.get t = some x) {cs : List AV} {o : Nat} {v : AV} (h : apart x cs o = some v) {cs' : List Value} (hc : concL ρ cs = some cs') (w : World) :
    ∃ v', conc ρ v = some v' ∧ (part t cs'.toArray o).run P w = .ok v' w := by
  unfold apart at h
  rcases bif_some h with ⟨c, h2⟩ | ⟨c, h2⟩
  · rcases bif_some h2 with ⟨_, h3⟩ | ⟨_, h3⟩
    · cases h3
      refine ⟨.agg ((cs'.drop o).take x.size).toArray, by simp [conc, concL_take (concL_drop hc o) x.size], ?_⟩
      simp only [part, Sem.run_bind, hE.isAgg ht w, Result.andThen_ok, c, if_true, hE.size ht w, Sem.run_pure, extract_list]
    · cases h3
  · obtain ⟨v', a, b⟩ := concL_get hc o v h2
    refine ⟨v', b, ?_⟩
    simp only [part, Sem.run_bind, hE.isAgg ht w, Result.andThen_ok, c]
    simp [a]

/-- An element of a string, of an array's value. -/
def aindex (E : Env) (t : TypeId) (x ix : AV) : Option AV :=
  match natOf ix, x with
  | some n, .str s => match E.ty.get t with
    | some i => match i.desc with
      | .string => (s[n]?).map fun b => .int .u8 (b.toNat : Int)
      | _ => none
    | none => none
  | some n, .agg cs => match E.ty.get t with
    | some i => match i.desc with
      | .array len e => match E.ty.get e with
        | some y => bif Nat.blt n len then apart y cs (n * y.size) else none
        | none => none
      | _ => none
    | none => none
  | _, _ => none

theorem aindex_run (hE : E.Ok P) {t : TypeId} {x ix v : AV} (h : aindex E t x ix = some v) {x' ix' : Value} (hx : conc ρ x = some x') (hi : conc ρ ix = some ix') (w : World) :
    ∃ v', conc ρ v = some v' ∧ (Instr.index t x' ix').run P w = .ok v' w := by
  unfold aindex at h
  split at h
  · rename_i n s hn
    obtain ⟨k, rfl⟩ := natOf_conc hn hi
    cases conc_str hx
    split at h
    rotate_left
    · cases h
    rename_i i ht
    have hu := (hE.ty t i ht).1
    split at h
    rotate_left
    · cases h
    rename_i hd
    rw [hd] at hu
    cases hb : s[n]? with
    | none => rw [hb] at h; cases h
    | some b =>
      rw [hb] at h; cases h
      refine ⟨_, rfl, ?_⟩
      have hlt : n < s.length := by
        rcases Nat.lt_or_ge n s.length with h' | h'
        · exact h'
        · rw [List.getElem?_eq_none h'] at hb; cases hb
      have hget : (⟨s.toArray⟩ : ByteArray)[n]? = some b := by
        rw [ByteArray.getElem?_lt' _ _ (by simpa [ByteArray.size] using hlt)]
        rw [List.getElem?_eq_getElem hlt] at hb
        cases hb; rfl
      simp only [Instr.index, asIntOf, Sem.run_bind, Sem.run_pure, Result.andThen_ok, run_underlying hu]
      rw [if_pos (by omega)]
      simp only [Int.toNat_natCast, hget, Sem.run_pure]
  · rename_i n cs hn
    obtain ⟨k, rfl⟩ := natOf_conc hn hi
    obtain ⟨cs', hcs, rfl⟩ := conc_agg hx
    split at h
    rotate_left
    · cases h
    rename_i i ht
    have hu := (hE.ty t i ht).1
    split at h
    rotate_left
    · cases h
    rename_i len e hd
    rw [hd] at hu
    split at h
    rotate_left
    · cases h
    rename_i y hy
    rcases bif_some h with ⟨c, h4⟩ | ⟨_, h4⟩
    rotate_left
    · cases h4
    have c := blt_lt c
    obtain ⟨v', a, b⟩ := apart_run hE hy h4 hcs w
    refine ⟨v', a, ?_⟩
    simp only [Instr.index, asIntOf, Sem.run_bind, Sem.run_pure, Result.andThen_ok, run_underlying hu]
    rw [if_pos ⟨by omega, by omega⟩]
    simp only [Int.toNat_natCast, Sem.run_bind, hE.size hy w, Result.andThen_ok, b]
  · cases h

/-- A field of a struct's value; a field's address. -/
def afield (E : Env) (t : TypeId) (x : AV) (f : Nat) : Option AV :=
  match E.ty.get t, x with
  | some i, .agg cs => match i.desc with
    | .struct fields => match fields.toList[f]? with
      | some fd => match E.ty.get fd.type with
        | some y => apart y cs fd.offset
        | none => none
      | none => none
    | _ => none
  | _, _ => none

theorem afield_run (hE : E.Ok P) {t : TypeId} {x v : AV} {f : Nat} (h : afield E t x f = some v) {x' : Value} (hx : conc ρ x = some x') (w : World) :
    ∃ v', conc ρ v = some v' ∧ (Instr.field t x' f).run P w = .ok v' w := by
  unfold afield at h
  split at h
  rotate_left
  · cases h
  rename_i i cs ht
  have hu := (hE.ty t i ht).1
  obtain ⟨cs', hcs, rfl⟩ := conc_agg hx
  split at h
  rotate_left
  · cases h
  rename_i fields hd
  rw [hd] at hu
  split at h
  rotate_left
  · cases h
  rename_i fd hf
  split at h
  rotate_left
  · cases h
  rename_i y hy
  obtain ⟨v', a, b⟩ := apart_run hE hy h hcs w
  refine ⟨v', a, ?_⟩
  have hf' : fields[f]? = some fd := by simpa using hf
  simp only [Instr.field, Sem.run_bind, run_underlying hu, Result.andThen_ok, hf', asAgg, Sem.run_pure, b]

def afieldAddr (E : Env) (t : TypeId) (x : AV) (f : Nat) : Option AV :=
  match E.ty.get t, x with
  | some i, .ptr id o => match i.desc with
    | .struct fields => match fields.toList[f]? with
      | some fd => match E.ty.get fd.type with
        | some y => bif Nat.beq y.size 0 then none else some (.ptr id (o + fd.offset))
        | none => none
      | none => none
    | _ => none
  | _, _ => none

theorem afieldAddr_run (hE : E.Ok P) {t : TypeId} {x v : AV} {f : Nat} (h : afieldAddr E t x f = some v) {x' : Value} (hx : conc ρ x = some x') (w : World) :
    ∃ v', conc ρ v = some v' ∧ (Instr.fieldAt t x' f).run P w = .ok v' w := by
  unfold afieldAddr at h
  split at h
  rotate_left
  · cases h
  rename_i i id o ht
  have hu := (hE.ty t i ht).1
  obtain ⟨l, hl, rfl⟩ := conc_ptr hx
  split at h
  rotate_left
  · cases h
  rename_i fields hd
  rw [hd] at hu
  split at h
  rotate_left
  · cases h
  rename_i fd hf
  split at h
  rotate_left
  · cases h
  rename_i y hy
  rcases bif_some h with ⟨_, h4⟩ | ⟨c, h4⟩
  · cases h4
  cases h4
  have hne : y.size ≠ 0 := fun h0 => by rw [h0] at c; cases c
  have hf' : fields[f]? = some fd := by simpa using hf
  refine ⟨_, by simp only [conc, hl]; rfl, ?_⟩
  simp only [Instr.fieldAt, Sem.run_bind, run_underlying hu, Result.andThen_ok, hf', Instr.sureAddr, Sem.run_pure, fieldPlace, hE.size hy w]
  simp [hne, addr_add, Nat.add_assoc]

end Go.Am
