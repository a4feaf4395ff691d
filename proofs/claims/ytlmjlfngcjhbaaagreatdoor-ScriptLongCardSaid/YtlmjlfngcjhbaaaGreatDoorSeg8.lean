/- A piece of a closed run of the program, by the abstract machine, held by the kernel. No condition. -/
import Derived.Test.YtlmjlfngcjhbaaaGreatDoorSeg7
namespace Go.Proofs.YtlmjlfngcjhbaaaGreatDoor.Sl
open Go Go.Am
noncomputable def s9 : AState := ⟨⟨5, 17, (.n .e (some (.bool true)) .e), [.code (at_ Tryz.f5 [1, 1, 1])], [], .returning, false, none⟩,
 [],
 ⟨1003, (.n (.n (.n .e (some (.tab [(.int .u64 1), (.int .u64 10), (.int .u64 100), (.int .u64 1000), (.int .u64 10000), (.int .u64 100000), (.int .u64 1000000), (.int .u64 10000000), (.int .u64 100000000), (.int .u64 1000000000), (.int .u64 10000000000), (.int .u64 100000000000), (.int .u64 1000000000000), (.int .u64 10000000000000), (.int .u64 100000000000000), (.int .u64 1000000000000000), (.int .u64 10000000000000000), (.int .u64 100000000000000000), (.int .u64 1000000000000000000), (.int .u64 10000000000000000000)])) .e) none .e) none .e)⟩⟩
theorem seg8 : piece env 1304 [0] [] [3] s8 = some s9 := by kernel_rfl
end Go.Proofs.YtlmjlfngcjhbaaaGreatDoor.Sl
