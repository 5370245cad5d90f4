/- slices.Delete of the first element of a row of the call's own. Conditions: each stands in its own theorem. -/
import Derived.Test.YtihfikepfhcboaaIns
namespace Go.Proofs.Ytihfikepfhcboaa
open Go.RowKit

set_option maxRecDepth 100000 in
set_option maxHeartbeats 1600000 in
/-- slices.Delete(s, 0, 1). -/
theorem del39 (B g cap m : Nat) (xs cur : List Value) (w : World) (hg : w.heap[g]? = some (.cells cur.toArray 49 (0, 0))) (hBg : B ≤ g) (hcs : cur.length = cap * 11) (htake : cur.take ((m + 1) * 11) = xs) (hxs : xs.length = (m + 1) * 11) (hnc : m + 1 ≤ cap) (hcm : cap ≤ maxLen) (hn : m ≤ 1000)
    (h1 : ∀ u ∈ xs, u.oneCell' = true) :
    Calls Try.prog 39 #[.slice (some ⟨g, 0, none⟩) (m + 1) cap, .int .i64 0, .int .i64 1] w fun e w' =>
      e = .returned (.slice (some ⟨g, 0, none⟩) m cap) ∧ w'.ownsRow B 49 11 (.slice (some ⟨g, 0, none⟩) m cap) m (xs.drop 11) ∧ w.grownBy w' (some g) := by
  obtain ⟨i0, hi0, hz0, hz1, hz2⟩ := info_parts Try.info49
  have hdl : (xs.drop 11).length = m * 11 := by rw [List.length_drop, hxs]; omega
  have e1 := Nat.mul_le_mul_right 11 hnc
  obtain ⟨W1, hW1⟩ : ∃ W1, W1 = w.drew.setRow g (cur.toArray.toList.take (0 * i0.size) ++ xs.drop 11 ++ cur.toArray.toList.drop (0 * i0.size + (xs.drop 11).length)).toArray := ⟨_, rfl⟩
  have hr : ∀ off, (0 < m → off = 11) → ∀ c, (Builtin.append_ #[104, 104] 104 #[.slice (some ⟨g, 0, none⟩) 0 cap, .slice (some ⟨g, off, none⟩) m c]).run Try.prog w.drew = .ok (.slice (some ⟨g, 0, none⟩) m cap) W1 := fun off ho c => by
    have := run_append_room (P := Try.prog) w.drew 104 104 49 i0 Try.ul104 hi0 g 0 cap cur.toArray hg ⟨g, off, none⟩ m c (xs.drop 11) (by rw [hz1]; exact hdl) (fun j v hj => by
      have hj' := (List.getElem?_eq_some_iff.1 hj).1
      have := ho (by omega)
      subst this
      rw [add_lit, cell_of_row w.drew g _ _ 49 (0, 0) hg]
      rw [List.getElem?_drop, ← htake, List.getElem?_take] at hj
      split at hj
      · simpa using hj
      · cases hj) (fun v hv => h1 v (List.mem_of_mem_drop hv)) (by omega) (by rw [hdl]; simp; omega)
    rw [Nat.zero_add] at this
    rw [this, hW1]
  have hg1 : W1.heap[g]? = some (.cells (xs.drop 11 ++ cur.drop (m * 11)).toArray 49 (0, 0)) := by
    rw [hW1, setRow_heap w.drew g _ _ _ _ hg, hdl]; simp
  obtain ⟨W2, hW2⟩ : ∃ W2, W2 = W1.setRow g (splice (xs.drop 11 ++ cur.drop (m * 11)) (m * 11) (Builtin.zeroCells (.agg #[.int .i64 0, .int .i64 0, .int .i64 0, .int .i64 0, .int .i64 0, .bool false, .int .i64 0, .slice none 0 0, .slice none 0 0, .bool false, .int .i64 0] : Value).cells 1).toList).toArray := ⟨_, rfl⟩
  have hl1 : (xs.drop 11 ++ cur.drop (m * 11)).length = cap * 11 := by rw [List.length_append, hdl, List.length_drop, hcs]; omega
  have hc : ∀ c ty, (Builtin.clear_ #[104] ty #[.slice (some ⟨g, m * 11, none⟩) 1 c]).run Try.prog W1 = .ok (.tuple #[]) W2 := fun c ty => by
    rw [run_clear_sz (P := Try.prog) W1 104 ty 49 i0 _ Try.ul104 hi0 hz0 (by simp [Value.cells, Value.oneCell']) g (m * 11) 1 c _ 49 hg1 (by decide) (by simp only [Value.cells]; rw [hl1]; simp; omega), hW2]
  have hg2 : W2.heap[g]? = some (.cells (splice (xs.drop 11 ++ cur.drop (m * 11)) (m * 11) (Builtin.zeroCells (.agg #[.int .i64 0, .int .i64 0, .int .i64 0, .int .i64 0, .int .i64 0, .bool false, .int .i64 0, .slice none 0 0, .slice none 0 0, .bool false, .int .i64 0] : Value).cells 1).toList).toArray 49 (0, 0)) := by
    rw [hW2]; exact setRow_heap _ g _ _ _ _ hg1
  have key : W2.ownsRow B 49 11 (.slice (some ⟨g, 0, none⟩) m cap) m (xs.drop 11) ∧ w.grownBy W2 (some g) := by
    refine ⟨⟨hdl, .inr ⟨g, cap, _, rfl, hBg, hg2, by omega, hcm, ?_, ?_⟩⟩, ⟨by rw [hW2, hW1]; rfl, by rw [hW2, hW1]; rfl, by rw [hW2, hW1]; rfl, by rw [hW2, hW1]; simp, fun k hk hkg => ?_⟩⟩
    · rw [List.size_toArray, length_splice _ _ _ (by rw [hl1]; simp [Builtin.zeroCells, Value.cells]; omega), hl1]
    · unfold splice
      rw [List.take_left' (by rw [List.length_take, hl1]; omega)]
      exact List.take_left' hdl
    · have hkg' : k ≠ g := fun h => hkg (by rw [h])
      rw [hW2, setRow_other _ _ _ _ hkg', hW1, setRow_other _ _ _ _ hkg']; rfl
  have HK := Lib.hid key
  have HR := Lib.hid hr
  have HC := Lib.hid hc
  have hcm' : cap ≤ 9223372036854775807 := by unfold maxLen at hcm; omega
  have hb2 : ¬ (cap = m) := by omega
  have hw1 : (1 : Int) ≤ (m : Int) + 1 := by omega
  clear key hr hc hg1 hg2 hW1 hW2 hl1 hdl hg hcs htake hxs hi0 hz0 hz1 hz2 h1 hcm e1
  by_cases hc1 : cap = 1
  · have hm0 : m = 0 := by omega
    have HR0 := Lib.hid (HR.out 0 (fun h => by omega) 0)
    subst hm0 hc1
    clear hb2 hw1 HR
    go_enter Try.func39, Try.ntmps39
    go_wp2
    go_region_law (refine step_append_run (.tmp 22) (.tmp 25) 104 104 rfl rfl (v := .slice (some ⟨g, 0, none⟩) 0 1) (u := .slice (some ⟨g, 0, none⟩) 0 0) (by simp [Act.eval, Act.put]) (by simp [Act.eval, Act.put]) HR0.out ?_)
    go_wp2_with ((with_reducible refine wpList_at_clear ?_); go_loud (refine wpList_clear_run (.tmp 31) 104 rfl rfl rfl (HC.out _ _) ?_))
    go_ret
    exact ⟨rfl, HK.out⟩
  · have HR0 := Lib.hid (HR.out 11 (fun _ => rfl) (cap - 1))
    clear HR
    go_enter Try.func39, Try.ntmps39
    go_wp2
    go_region_law (refine step_append_run (.tmp 22) (.tmp 25) 104 104 rfl rfl (v := .slice (some ⟨g, 0, none⟩) 0 cap) (u := .slice (some ⟨g, 11, none⟩) m (cap - 1)) (by simp [Act.eval, Act.put]) (by simp [Act.eval, Act.put]) HR0.out ?_)
    go_wp2_with ((with_reducible refine wpList_at_clear ?_); go_loud (refine wpList_clear_run (.tmp 31) 104 rfl rfl rfl (HC.out _ _) ?_))
    go_ret
    exact ⟨rfl, HK.out⟩
end Go.Proofs.Ytihfikepfhcboaa
