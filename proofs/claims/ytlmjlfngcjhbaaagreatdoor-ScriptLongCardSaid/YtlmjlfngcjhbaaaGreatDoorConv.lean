/- The conversion of a slice of line feeds to a string. -/
import Derived.Test.YtlmjlfngcjhbaaaGreatDoorParts
namespace Go.Proofs.YtlmjlfngcjhbaaaGreatDoor.Sl
open Go Go.Am Go.RowKit
theorem nl_nums (n : Nat) : strOfNums (List.replicate n 10) = nl n := by
  unfold strOfNums nl
  rw [List.map_replicate]
  rfl
theorem conv_b (w : World) (n : Nat) (F : Array Value) (hF : ∀ i, i < n → F[i]? = some (.int .u8 10)) : (convert 22 9 (.slice (some ⟨w.heap.size, 0, none⟩) n n)).run Tryz.prog (w.alloc (.cells F 5)) = .ok (.string (nl n)) (w.alloc (.cells F 5)) := by
  have h := run_convert_bytes_arg (P := Tryz.prog) (w := w.alloc (.cells F 5)) 22 5 Tryz.underlying22 Tryz.underlying5 w.heap.size 0 n n (List.replicate n 10) (List.length_replicate ..)
    (fun i hi => by
      have := alloc_new w (.cells F 5)
      rw [Nat.zero_add]
      simp only [World.cell?, this, hF i hi]
      simp [List.getD, hi]) 9 Tryz.underlying9
  rw [h, nl_nums]
end Go.Proofs.YtlmjlfngcjhbaaaGreatDoor.Sl
