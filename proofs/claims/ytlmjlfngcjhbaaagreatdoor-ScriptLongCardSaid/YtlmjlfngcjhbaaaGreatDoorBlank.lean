/- Play on a text whose pieces are all empty: nothing is told. -/
import Derived.Test.YtlmjlfngcjhbaaaGreatDoorShelf
import Derived.Test.YtlmjlfngcjhbaaaGreatDoorConv
import Derived.Deep.DeepFit
namespace Go.Proofs.YtlmjlfngcjhbaaaGreatDoor.Sl
open Go Go.Am Go.RowKit
set_option maxRecDepth 20000
theorem blank_cells (w : World) (cs : Array Value) (hG : 8 ≤ w.heap.size) :
    Calls Tryz.prog 9 #[.pointer (some ⟨w.heap.size, 5, none⟩)] ((w.alloc (.cells #[.slice none 0 0, .slice none 0 0, .int .i64 0, .int .i64 0, .pointer none, .pointer none, .slice none 0 0] 38)).alloc (.cells cs 9)) fun e w' =>
      e = .returned (.string ⟨#[]⟩) ∧ Below w.heap.size w w' := by
  have h1 : ((w.alloc (.cells #[.slice none 0 0, .slice none 0 0, .int .i64 0, .int .i64 0, .pointer none, .pointer none, .slice none 0 0] 38)).alloc (.cells cs 9)).heap[w.heap.size]? = some (.cells #[.slice none 0 0, .slice none 0 0, .int .i64 0, .int .i64 0, .pointer none, .pointer none, .slice none 0 0] 38) := by
    rw [Below.heap_alloc _ _ _ (by rw [World.size_alloc]; omega)]
    exact alloc_new _ _
  have hB : Below w.heap.size w ((w.alloc (.cells #[.slice none 0 0, .slice none 0 0, .int .i64 0, .int .i64 0, .pointer none, .pointer none, .slice none 0 0] 38)).alloc (.cells cs 9)) :=
    ((Below.refl _ w).alloc (Nat.le_refl _) _).alloc (by rw [World.size_alloc]; omega) _
  refine (blank_text _ w.heap.size (by rw [World.size_alloc, World.size_alloc]; omega) (by rw [World.size_alloc, World.size_alloc]; omega) fun k v hk => ?_).mono fun e w' h => ⟨h.1, hB.trans (h.2.mono (by rw [World.size_alloc, World.size_alloc]; omega))⟩
  have hk7 : k < 7 := by
    rcases Nat.lt_or_ge k 7 with h | h
    · exact h
    · rw [List.getElem?_eq_none (by simpa [blankStage] using h)] at hk; cases hk
  simp only [World.cell?, h1]
  obtain rfl | rfl | rfl | rfl | rfl | rfl | rfl : k = 0 ∨ k = 1 ∨ k = 2 ∨ k = 3 ∨ k = 4 ∨ k = 5 ∨ k = 6 := by omega
  all_goals (cases hk; exact ⟨_, rfl, rfl⟩)

theorem play_blank (s : ByteArray) (m : Int) (n : Nat) (w : World) (hG : 8 ≤ w.heap.size) (hs : s.size ≤ 65536) (hm : w.cell? ⟨0, 0, none⟩ = some (.int .i64 m)) (hn : n ≤ 65536)
    (hc : Lib.countB s ⟨#[10]⟩ = n) (hp : Lib.splitB ⟨#[10]⟩ 0 n s = List.replicate (n + 1) ByteArray.empty) :
    Calls Tryz.prog 4 #[.string s] w fun e w' => e = .returned (.tuple #[.string ByteArray.empty, .int .i64 0]) ∧ Below w.heap.size w w' := by
  have hm2 : ∀ o, (w.alloc o).cell? ⟨0, 0, none⟩ = some (.int .i64 m) := fun o => by rw [World.cell?_alloc_old _ _ _ (Nat.ne_of_lt (World.block_lt_of_cell? _ _ hm))]; exact hm
  have c : ∀ o, Calls Tryz.prog 6 #[.string s, .string ⟨#[10]⟩] (w.alloc o) fun e w' =>
      e = .returned (.slice (some ⟨(w.alloc o).heap.size, 0, none⟩) (n + 1) (n + 1)) ∧ w' = (w.alloc o).alloc (.cells ((List.replicate (n + 1) ByteArray.empty).map Value.string).toArray 9) := fun o => by
    have c := Tryz.strings_Split s ⟨#[10]⟩ m (w.alloc o) (by omega) (hm2 o) (by decide)
    rw [hc, hp] at c
    exact c
  have hcell : ∀ k : Nat, k < n + 1 → (((List.replicate (n + 1) ByteArray.empty).map Value.string).toArray)[k]? = some (.string ByteArray.empty) := by
    intro k hk
    simp [hk]
  generalize hcs : ((List.replicate (n + 1) ByteArray.empty).map Value.string).toArray = cs at c hcell
  clear hcs hp hc
  go_enter Tryz.func4, Tryz.ntmps4
  go_wp2_with (go_at_call 6; go_fit (c _); rintro e w' ⟨rfl, rfl⟩)
  go_loop [15] (fun i => ∃ k : Nat, k ≤ n + 1 ∧ i = .int .i64 k) (fun i => n + 1 - (intOf i).toNat)
  case atStart => exact ⟨0, Nat.zero_le _, rfl⟩
  case round =>
    obtain ⟨k, hk, rfl⟩ := hrel
    have hck : k < n + 1 → cs[k]? = some (.string ByteArray.empty) := hcell k
    have hck2 : (k : Int) < (n : Int) + 1 → cs[k]? = some (.string ByteArray.empty) := fun h => hcell k (by omega)
    clear hcell
    go_wp2_with (go_at_call 9; go_fit (blank_cells w cs hG); rintro e w' ⟨rfl, hB⟩)
    · refine ⟨⟨k + 1, by omega, by simp⟩, ?_⟩
      simp [intOf]
      omega
    · exact bodyPost_ret (results_tmp2 rfl _ _ _) rfl ⟨rfl, hB⟩
end Go.Proofs.YtlmjlfngcjhbaaaGreatDoor.Sl
