/- wasCached31's walk. Conditions: none. -/
import Derived.Test.YtihfikepfhcboaaWas
namespace Go.Proofs.Ytihfikepfhcboaa
open Go.RowKit
theorem WasAt.form {w : World} {g : Nat} {K : List Kep} {v : Value} {W : World} (h : WasAt w g K v W) : ∃ a n c, v = .slice a n c := by
  obtain ⟨qs, h1, _⟩ := h.own
  obtain ⟨a, c, e⟩ := SlOf.form h1.cacheAt.1
  exact ⟨a, _, c, e⟩
theorem was6 (W : World) : Calls Try.prog 6 #[.int .i64 2, .slice (some ⟨W.heap.size, 0, none⟩) 5 5] (W.alloc (.cells #[.int .u8 0, .int .u8 3, .int .u8 1, .int .u8 0, .int .u8 5, .int .u8 2, .int .u8 0, .int .u8 4, .int .u8 3, .int .u8 0, .int .u8 2, .int .u8 4, .int .u8 1, .int .u8 1, .int .u8 0] 36)) fun e w' =>
    e = .returned (.tuple #[.int .i64 4, .bool true]) ∧ Below W.heap.size W w' := by
  have hx := heap_alloc_new W (.cells #[.int .u8 0, .int .u8 3, .int .u8 1, .int .u8 0, .int .u8 5, .int .u8 2, .int .u8 0, .int .u8 4, .int .u8 3, .int .u8 0, .int .u8 2, .int .u8 4, .int .u8 1, .int .u8 1, .int .u8 0] 36)
  have h := cached6_some 2 wasL W.heap.size 0 5 (W.alloc (.cells #[.int .u8 0, .int .u8 3, .int .u8 1, .int .u8 0, .int .u8 5, .int .u8 2, .int .u8 0, .int .u8 4, .int .u8 3, .int .u8 0, .int .u8 2, .int .u8 4, .int .u8 1, .int .u8 1, .int .u8 0] 36))
    (fun j v hv => by rw [Nat.zero_add, blk_cells (cs := (wasL.map K31.row).flatten) hx]; exact hv) (by simp) (by decide) (by unfold wasL; simp; refine ⟨⟨?_, ?_, ?_⟩, ⟨?_, ?_, ?_⟩, ⟨?_, ?_, ?_⟩, ⟨?_, ?_, ?_⟩, ⟨?_, ?_, ?_⟩⟩ <;> decide) (by decide) (by decide) (by decide)
  rw [wasL_count] at h
  refine h.mono ?_
  rintro e w' ⟨h1, h2⟩
  exact ⟨h1, ((Below.refl W.heap.size W).alloc (Nat.le_refl _) _).trans (h2.mono (by simp))⟩
set_option maxRecDepth 100000 in
set_option maxHeartbeats 6400000 in
theorem was5 (w : World) : Calls Try.prog 5 #[] w fun e w' => e = .returned (.bool true) ∧ Below w.heap.size w w' := by
  go_enter Try.func5, Try.ntmps5
  go_wp2_with (first
    | (go_at_call 6; refine (was6 _).mono ?_; rintro e w1 ⟨rfl, hb1⟩)
    | (go_at_call 9; refine (new9 2 _ (by omega) (by omega)).mono ?_; rintro e w2 ⟨rfl, hb2⟩))
  have hb := hb1.trans (hb2.mono hb1.size)
  have hW0 := WasAt.start hb
  have hW := hW0.step ((Below.refl _ _).alloc (Nat.le_refl _) (.cells #[.int .i64 3, .int .i64 5] 3))
  have hL : (((w2.alloc (.cells #[.int .i64 2, .slice none 0 0] 39)).alloc (.cells #[.int .i64 3, .int .i64 5] 3))).heap[w2.heap.size + 1]? = some (.cells #[.int .i64 3, .int .i64 5] 3 (0, 0)) := heap_alloc2_new w2 _ _
  have HW := Lib.hid hW
  have HL := Lib.hid hL
  clear hW hW0 hL hb1 hb2 hb
  go_loopw [37] (fun vi wr => ∃ (i : Nat) (v : Value), i ≤ 2 ∧ vi = .int .i64 i ∧ WasAt w w2.heap.size (wasK i) v wr ∧ Hid (wr.heap[w2.heap.size + 1]? = some (.cells #[.int .i64 3, .int .i64 5] 3 (0, 0)))) (fun vi _ => (2 - intOf vi).toNat)
  case atStart => exact ⟨0, _, Nat.zero_le _, rfl, HW.out, HL⟩
  case round =>
    obtain ⟨wo, rfl⟩ : ∃ wo : World, wo = wr := ⟨_, rfl⟩
    obtain ⟨i, v, hi, rfl, hW, HLr⟩ := hrel
    clear HW HL
    obtain ⟨a, n, c, rfl⟩ := hW.form
    rcases (by omega : i = 0 ∨ i = 1 ∨ i = 2) with rfl | rfl | rfl
    · as_aux_lemma =>
        have hc := hW.cells.1
        have hx := blk_cells (cs := [_, _]) HLr.out
        have HP := Lib.hid (was_put 0 3 (wasK 1) (by decide) (by decide) (by decide) rfl rfl hW)
        have HW := Lib.hid hW
        clear hW
        go_wp2_with (go_at_call 10; refine HP.out.mono ?_; rintro e w3 ⟨v', qs', rfl, ho, hq, hb3⟩; obtain ⟨a', c', rfl⟩ := SlOf.form ho.cacheAt.1; have HO := Lib.hid ho; have HQ := Lib.hid hq; clear ho hq; have hc3 := (HW.out.step hb3).cells)
        go_roundw
        case rel => exact ⟨1, _, by omega, by go_num, by have := HW.out.swap hb3 HO.out; rwa [HQ.out] at this, show _ = _ by rw [heap_setCell_other _ _ _ _ (by simp), heap_setCell_other _ _ _ _ (by simp), hb3.block _ (Array.getElem?_eq_some_iff.1 HLr.out).1]; exact HLr.out⟩
        case measure => simp [intOf]
    · as_aux_lemma =>
        have hc := hW.cells.1
        have hx := blk_cells (cs := [_, _]) HLr.out
        have HP := Lib.hid (was_put 1 5 (wasK 2) (by decide) (by decide) (by decide) rfl rfl hW)
        have HW := Lib.hid hW
        clear hW
        go_wp2_with (go_at_call 10; refine HP.out.mono ?_; rintro e w3 ⟨v', qs', rfl, ho, hq, hb3⟩; obtain ⟨a', c', rfl⟩ := SlOf.form ho.cacheAt.1; have HO := Lib.hid ho; have HQ := Lib.hid hq; clear ho hq; have hc3 := (HW.out.step hb3).cells)
        go_roundw
        case rel => exact ⟨2, _, by omega, by go_num, by have := HW.out.swap hb3 HO.out; rwa [HQ.out] at this, show _ = _ by rw [heap_setCell_other _ _ _ _ (by simp), heap_setCell_other _ _ _ _ (by simp), hb3.block _ (Array.getElem?_eq_some_iff.1 HLr.out).1]; exact HLr.out⟩
        case measure => simp [intOf]
    · have HW := Lib.hid hW
      have hc := hW.cells
      clear hW HLr
      go_upto_region 9 with (first
        | (go_at_call 11; go_loud (refine (was_look 2 3 1 (wasR 3) rfl HW.out).mono ?_; rintro e wA1 ⟨rfl, hbA⟩))
        | ((with_reducible refine wpList_at_store 49 (.tmp 7) (.tmp 52) ?_); go_loud (refine wpList_storeAll (cs := (wasR 3).cs) 49 (.tmp 7) (.tmp 52) rfl rfl rfl rfl (heap_alloc_new wA1 _) Try.size49 rfl (Rep.one _) ?_; intro wB1 hWr; have hbB := hbA.trans ((((Below.refl wA1.heap.size wA1).alloc (Nat.le_refl _) _).trans (hWr.below (Nat.le_refl _))).mono hbA.size); clear hWr)))
      have hW := HW.out.step hbB
      clear HW hbA hbB hc
      have HW := Lib.hid hW
      have hc := hW.cells
      clear hW
      have HP := Lib.hid (was_put 2 4 (wasK 3) (by decide) (by decide) (by decide) rfl rfl HW.out)
      go_upto_region 10 with (go_at_call 10; refine HP.out.mono ?_; rintro e wA2 ⟨v', qs', rfl, ho, hq, hbA⟩; obtain ⟨a2, c2, rfl⟩ := SlOf.form ho.cacheAt.1; have HO := Lib.hid ho; have HQ := Lib.hid hq; clear ho hq; have hc3 := (HW.out.step hbA).cells)
      have hW := HW.out.swap hbA HO.out
      rw [HQ.out] at hW
      obtain ⟨wB2, hwB⟩ : ∃ wB, wB = (wA2.setCell ⟨w2.heap.size, 0, none⟩ (.int .i64 2)).setCell ⟨w2.heap.size, 1, none⟩ (.slice a2 qs'.length c2) := ⟨_, rfl⟩
      rw [← hwB] at hW
      rw [← hwB]
      clear hwB hc hc3 HW HP HO hbA HQ
      have HW := Lib.hid hW
      have hc := hW.cells
      clear hW
      go_upto_region 11 with (first
        | (go_at_call 11; go_loud (refine (was_look 3 3 2 (Rep.zero) rfl HW.out).mono ?_; rintro e wA3 ⟨rfl, hbA⟩))
        | ((with_reducible refine wpList_at_store 49 (.tmp 9) (.tmp 63) ?_); go_loud (refine wpList_storeAll (cs := (Rep.zero).cs) 49 (.tmp 9) (.tmp 63) rfl rfl rfl rfl (heap_alloc_new wA3 _) Try.size49 rfl (Rep.one _) ?_; intro wB3 hWr; have hbB := hbA.trans ((((Below.refl wA3.heap.size wA3).alloc (Nat.le_refl _) _).trans (hWr.below (Nat.le_refl _))).mono hbA.size); clear hWr)))
      have hW := HW.out.step hbB
      clear HW hbA hbB hc
      have HW := Lib.hid hW
      have hc := hW.cells
      clear hW
      go_upto_region 12 with (first
        | (go_at_call 11; go_loud (refine (was_look 3 1 2 (Rep.zero) rfl HW.out).mono ?_; rintro e wA4 ⟨rfl, hbA⟩))
        | ((with_reducible refine wpList_at_store 49 (.tmp 11) (.tmp 68) ?_); go_loud (refine wpList_storeAll (cs := (Rep.zero).cs) 49 (.tmp 11) (.tmp 68) rfl rfl rfl rfl (heap_alloc_new wA4 _) Try.size49 rfl (Rep.one _) ?_; intro wB4 hWr; have hbB := hbA.trans ((((Below.refl wA4.heap.size wA4).alloc (Nat.le_refl _) _).trans (hWr.below (Nat.le_refl _))).mono hbA.size); clear hWr)))
      have hW := HW.out.step hbB
      clear HW hbA hbB hc
      have HW := Lib.hid hW
      have hc := hW.cells
      clear hW
      go_upto_region 13 with (first
        | (go_at_call 11; go_loud (refine (was_look 3 6 0 (Rep.zero) rfl HW.out).mono ?_; rintro e wA5 ⟨rfl, hbA⟩))
        | ((with_reducible refine wpList_at_store 49 (.tmp 13) (.tmp 73) ?_); go_loud (refine wpList_storeAll (cs := (Rep.zero).cs) 49 (.tmp 13) (.tmp 73) rfl rfl rfl rfl (heap_alloc_new wA5 _) Try.size49 rfl (Rep.one _) ?_; intro wB5 hWr; have hbB := hbA.trans ((((Below.refl wA5.heap.size wA5).alloc (Nat.le_refl _) _).trans (hWr.below (Nat.le_refl _))).mono hbA.size); clear hWr)))
      have hW := HW.out.step hbB
      clear HW hbA hbB hc
      have HW := Lib.hid hW
      have hc := hW.cells
      clear hW
      have HP := Lib.hid (was_refused 3 2 (by decide) (by decide) (by decide) HW.out)
      go_upto_region 14 with (go_at_call 10; refine HP.out.mono ?_; rintro e w3 ⟨v', qs', rfl, ho, hq, hb3⟩; obtain ⟨a', c', rfl⟩ := SlOf.form ho.cacheAt.1; clear ho hq)
      have hB3 := (HW.out.step hb3).below.alloc ((HW.out.step hb3).below.size) (.cells #[.int .i64 2, .slice a' qs'.length c'] 39)
      clear HW HP hc hb3
      go_upto_region 15 with (go_at_call 9; refine (new9_bad _ _ (by omega)).mono ?_; rintro e w4 ⟨rfl, hb4⟩)
      have hB4 := hB3.trans (hb4.mono hB3.size)
      have hB5 := hB4.alloc hB4.size (.cells #[.int .i64 0, .slice none 0 0] 39)
      clear hB3 hb4 hB4
      go_wp2_with (go_at_call 9; refine (new9_bad _ _ (by omega)).mono ?_; rintro e w5 ⟨rfl, hb6⟩)
      go_ret
      exact ⟨rfl, (hB5.trans (hb6.mono hB5.size)).alloc (hB5.trans (hb6.mono hB5.size)).size _⟩
end Go.Proofs.Ytihfikepfhcboaa
