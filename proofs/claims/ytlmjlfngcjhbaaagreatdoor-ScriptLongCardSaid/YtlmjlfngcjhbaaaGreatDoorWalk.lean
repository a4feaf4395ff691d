/- ScriptLong answers true, from every world that holds the table of powers of ten and some MaxLen. -/
import Derived.Test.YtlmjlfngcjhbaaaGreatDoorFull
namespace Go.Proofs.YtlmjlfngcjhbaaaGreatDoor.Sl
open Go Go.Am Go.RowKit
set_option maxRecDepth 20000
theorem one_new (w : World) (v : Value) : (w.alloc (.cells #[v] 5)).cell? ((⟨w.heap.size, 0, none⟩ : Addr).add 0) = some v := by
  have := alloc_new w (.cells #[v] 5)
  show World.cell? _ ⟨w.heap.size, 0, none⟩ = _
  simp only [World.cell?, this]
  rfl
theorem scriptLong_walk (c : Int) (m : Int) (w : World) (hG : 8 ≤ w.heap.size) (hm : w.cell? ⟨0, 0, none⟩ = some (.int .i64 m)) (ht : ∀ k, k < 20 → w.cell? ⟨3, k, none⟩ = some (.int .u64 (10 ^ k))) :
    Calls Tryz.prog 3 #[.int .u8 c] w fun e w' => e = .returned (.bool true) ∧ Below w.heap.size w w' := by
  obtain ⟨N, F, hN, hF, hmk, hcv⟩ : ∃ (N : Nat) (F : Nat → Array Value), N = 65536 ∧ F = fill ∧ (Instr.makeSlice 22 (.int .i64 65536) (.int .i64 65536)).run Tryz.prog w = .ok (.slice (some ⟨w.heap.size, 0, none⟩) N N) (w.alloc (.cells (F 0) 5)) ∧
      (convert 22 9 (.slice (some ⟨w.heap.size, 0, none⟩) N N)).run Tryz.prog (w.alloc (.cells (F N) 5)) = .ok (.string (nl N)) (w.alloc (.cells (F N) 5)) := ⟨65536, fill, rfl, rfl, make_b w, conv_b w _ _ fill_full⟩
  have hsz : ∀ k, k ≤ N → (F k).size = N := by subst hN hF; exact fill_size
  have hst : ∀ k, k < N → (F k).setIfInBounds k (.int .u8 10) = F (k + 1) := by subst hN hF; exact fill_set
  have hfl : (F N).toList = (List.replicate N 10).map (Value.int .u8) := by subst hN hF; exact fill_list
  have hNs : N ≤ 65536 := by omega
  have hNl : 65536 ≤ N := by omega
  have Hhcv := Lib.hid hcv
  clear hcv
  have Hhfl := Lib.hid hfl
  clear hfl
  clear hN hF
  obtain ⟨i0, hi, hz0, hz1, hz2⟩ := info_parts info5
  have Hhz0 := Lib.hid hz0
  clear hz0
  have Hhz1 := Lib.hid hz1
  clear hz1
  have Hhz2 := Lib.hid hz2
  clear hz2
  have Hhi := Lib.hid hi
  clear hi
  go_enter Tryz.func3, Tryz.ntmps3
  go_wp2
  clear hmk
  go_loopw [4] (fun i wr => ∃ k : Nat, k ≤ N ∧ i = .int .i64 k ∧ wr = w.alloc (.cells (F k) 5)) (fun i _ => N - (intOf i).toNat)
  case atStart => exact ⟨0, Nat.zero_le _, rfl, rfl⟩
  case round =>
    obtain ⟨k, hk, rfl, rfl⟩ := hrel
    have hszk := hsz k hk
    have hstk := hst k
    clear hsz hst
    by_cases hlt : k < N
    · have hstk := hstk hlt
      go_wp2
      refine ⟨⟨k + 1, by omega, by simp, rfl⟩, ?_⟩
      simp only [intOf]
      omega
    · obtain rfl : k = N := by omega
      clear hstk hszk
      have hcv' := Hhcv.out
      have hm2 : ∀ o, (w.alloc o).cell? ⟨0, 0, none⟩ = some (.int .i64 m) := fun o => by rw [World.cell?_alloc_old _ _ _ (Nat.ne_of_lt (World.block_lt_of_cell? _ _ hm))]; exact hm
      go_wp2_with fail
      refine (play_blank (nl k) m k (w.alloc (.cells (F k) 5)) (by rw [World.size_alloc]; omega) (by rw [nl_size]; exact hNs) (hm2 _) hNs (nl_count k) (nl_split k)).mono ?_
      rintro e w1 ⟨rfl, hB1⟩
      clear hcv' hm2
      have HB1 := Lib.hid hB1
      clear hB1
      have hB0 : Below w.heap.size w w1 := ((Below.refl _ w).alloc (Nat.le_refl _) (.cells (F k) 5)).trans (HB1.out.mono (by rw [World.size_alloc]; omega))
      have hsz1 : w.heap.size < w1.heap.size := by have := HB1.out.size; rw [World.size_alloc] at this; omega
      have HB0 := Lib.hid hB0
      clear hB0
      go_wp2_with (at_builtin; refine wpList_append_own _ rfl _ _ 22 rfl w.heap.size 5 i0 (.int .u8 0) 1 1 Tryz.underlying22 Hhi.out Hhz0.out Hhz1.out Hhz2.out rfl (by decide) _ _ _ rfl (own_full w w1 k (F k) Hhfl.out hNs HB1.out _) ⟨w1.heap.size, 0, none⟩ 1 1 [.int .u8 c] rfl rfl ?c1 ?c2 ?c3 ?c4 ?c5 ?_)
      case c1 =>
        intro j u hj
        cases j with
        | zero =>
          simp only [List.getElem?_cons_zero, Option.some.injEq] at hj
          subst hj
          exact one_new w1 (.int .u8 c)
        | succ j => simp at hj
      case c2 => intro u hu; simp only [List.mem_singleton] at hu; subst hu; rfl
      case c3 => unfold maxLen; omega
      case c4 => omega
      case c5 => rw [World.size_alloc]; omega
      intro v' w2 hown hgrow _
      obtain ⟨s, hss, hcs⟩ := own_conv w2 w.heap.size (k + 1) v' (List.replicate k 10 ++ [c]) (by rw [List.map_append, List.map_replicate]; exact hown) (by omega)
      have HB2 : Hid (Below w.heap.size w w2) := Lib.hid ((HB0.out.alloc (by omega) (.cells #[.int .u8 c] 5)).grown hgrow (by rw [World.size_alloc]; omega) (fun q e => by simp only [Value.ownBlock, Option.some.injEq] at e; omega))
      have hss2 : 65536 < s.size := by omega
      clear hown hgrow hss
      go_wp2_with fail
      refine (play_long s w2 hss2).mono ?_
      rintro e w3 ⟨rfl, hB3⟩
      have HB3 : Hid (Below w.heap.size w w3) := Lib.hid (HB2.out.trans (hB3.mono HB2.out.size))
      clear hB3 hcs
      go_wp2_with fail
      refine (awake w3 (Nat.le_trans hG HB3.out.size) (fun j hj => by rw [HB3.out.cell (p := ⟨3, j, none⟩) (by show 3 < _; omega)]; exact ht j hj)).mono ?_
      rintro e w4 ⟨rfl, hB4⟩
      have HB4 : Hid (Below w.heap.size w w4) := Lib.hid (HB3.out.trans (hB4.mono HB3.out.size))
      clear hB4
      go_wp2
      go_ret
      exact ⟨rfl, HB4.out⟩
end Go.Proofs.YtlmjlfngcjhbaaaGreatDoor.Sl
