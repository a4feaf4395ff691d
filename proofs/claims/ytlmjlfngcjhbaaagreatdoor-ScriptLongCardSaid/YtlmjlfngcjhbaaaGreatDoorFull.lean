/- ScriptLong answers true, from every world that holds the table of powers of ten and some MaxLen. -/
import Derived.Test.YtlmjlfngcjhbaaaGreatDoorBlank
import Derived.Lib.Hide
import Derived.Lib.Hide
namespace Go.Proofs.YtlmjlfngcjhbaaaGreatDoor.Sl
open Go Go.Am Go.RowKit
set_option maxRecDepth 20000
theorem fill_size (k : Nat) (h : k ≤ 65536) : (fill k).size = 65536 := by simp [fill]; omega
theorem fill_set (k : Nat) (h : k < 65536) : (fill k).setIfInBounds k (.int .u8 10) = fill (k + 1) := by
  apply Array.ext
  · simp [fill]; omega
  · intro i h1 h2
    rw [Array.getElem_setIfInBounds (by simpa using h1)]
    simp only [fill, Array.getElem_append, Array.size_replicate, Array.getElem_replicate]
    split
    · rename_i e; subst e; rw [dif_pos (by omega)]
    · rename_i e
      by_cases hi : i < k
      · rw [dif_pos hi, dif_pos (by omega)]
      · rw [dif_neg hi, dif_neg (by omega)]
theorem fill_full (i : Nat) (h : i < 65536) : (fill 65536)[i]? = some (.int .u8 10) := by
  rw [show fill 65536 = Array.replicate 65536 (.int .u8 10) by unfold fill; rw [Nat.sub_self]; exact Array.append_empty]
  rw [Array.getElem?_replicate, if_pos h]
theorem info5 : (Tryz.prog.info? 5).map (fun i => (i.zero, i.size, i.bytes)) = some (some (.int .u8 0), 1, 1) := by kernel_rfl
theorem own_conv (w : World) (base n : Nat) (v : Value) (zs : List Int) (h : w.ownsRow base 5 1 v n (zs.map (Value.int .u8))) (hn : 0 < n) :
    ∃ s : ByteArray, s.size = n ∧ (convert 22 9 v).run Tryz.prog w = .ok (.string s) w := by
  have hl := h.1
  rw [List.length_map, Nat.mul_one] at hl
  rcases h.2 with ⟨_, h0⟩ | ⟨g, cap, cur, rfl, _, hg, hcap, _, hsz, htk⟩
  · omega
  · refine ⟨strOfNums zs, by simp [strOfNums, ByteArray.size, hl], ?_⟩
    refine run_convert_bytes_arg (P := Tryz.prog) w 22 5 Tryz.underlying22 Tryz.underlying5 g 0 n cap zs hl (fun i hi => ?_) 9 Tryz.underlying9
    rw [Nat.zero_add]
    have hx : (cur.toList.take (n * 1))[i]? = (zs.map (Value.int .u8))[i]? := by rw [htk]
    rw [List.getElem?_take, if_pos (by omega)] at hx
    simp only [World.cell?, hg]
    rw [← Array.getElem?_toList, hx, List.getElem?_map, List.getElem?_eq_getElem (by omega)]
    simp [List.getD, List.getElem?_eq_getElem (show i < zs.length by omega)]
theorem own_full (w w1 : World) (k : Nat) (F : Array Value) (hF : F.toList = (List.replicate k 10).map (Value.int .u8)) (hk : k ≤ 65536) (hB : Below (w.alloc (.cells F 5)).heap.size (w.alloc (.cells F 5)) w1) (o : Obj) :
    (w1.alloc o).ownsRow w.heap.size 5 1 (.slice (some ⟨w.heap.size, 0, none⟩) k k) k ((List.replicate k 10).map (Value.int .u8)) := by
  have hs : F.size = k := by have := congrArg List.length hF; simpa using this
  refine ⟨by simp, .inr ⟨w.heap.size, k, F, rfl, Nat.le_refl _, ?_, Nat.le_refl _, by unfold maxLen; omega, by rw [hs, Nat.mul_one], ?_⟩⟩
  · have h1 := hB.size
    rw [World.size_alloc] at h1
    rw [Below.heap_alloc _ _ _ (by omega), hB.block _ (by rw [World.size_alloc]; omega)]
    exact alloc_new _ _
  · rw [hF, List.take_of_length_le (by simp)]
theorem fill_list : (fill 65536).toList = (List.replicate 65536 10).map (Value.int .u8) := by
  rw [show fill 65536 = Array.replicate 65536 (.int .u8 10) by unfold fill; rw [Nat.sub_self]; exact Array.append_empty]
  rw [Array.toList_replicate, List.map_replicate]
end Go.Proofs.YtlmjlfngcjhbaaaGreatDoor.Sl
