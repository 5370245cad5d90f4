/- slices.Insert of one element into a row of the call's own, at the two element types that TopReplies reaches. Conditions: each stands in its own theorem. -/
import Derived.Test.YtihfikepfhcboaaLeaf
import Derived.Test.YtihfikepfhcboaaRun
namespace Go.Proofs.Ytihfikepfhcboaa
open Go.RowKit

/-- What slices.Insert leaves: the row with x at place i, in the old block or in a new one. -/
def Inserted (w : World) (B : Nat) (E : TypeId) (sz : Nat) (s : Value) (n i : Nat) (xs x : List Value) (e : Ending) (w' : World) : Prop :=
  ∃ v', e = .returned v' ∧ w'.ownsRow B E sz v' (n + 1) (xs.take (i * sz) ++ (x ++ xs.drop (i * sz))) ∧ w.grownBy w' s.ownBlock ∧ (v'.ownBlock = s.ownBlock ∨ v'.ownBlock = some w.heap.size)

theorem row_of_block {w : World} {b : Nat} {x : List Value} {e : TypeId} {fr : Nat × Nat} (h : w.heap[b]? = some (.cells x.toArray e fr)) : Row w b 0 x := fun j v hv => by
  rw [cell_of_row w b _ _ e fr h]; simpa using hv

theorem insert_splice {α : Type} (cur xs x : List α) (a b a' b' : Nat) (htake : cur.take b = xs) (hab : a ≤ b) (ha : a' = a + x.length) (hb : b' = b + x.length) (hl : b' ≤ cur.length) :
    (splice (splice cur a' (xs.drop a)) a x).take b' = xs.take a ++ (x ++ xs.drop a) := by
  subst ha hb
  have hxl : xs.length = b := by rw [← htake, List.length_take]; omega
  have e3 : cur.take a = xs.take a := by rw [← htake, List.take_take, Nat.min_eq_left hab]
  unfold splice
  apply List.ext_getElem?
  intro j
  simp only [List.getElem?_take, List.getElem?_append, List.length_take, List.length_drop, List.getElem?_drop, List.length_append]
  have e4 : ∀ k, k < a → cur[k]? = xs[k]? := fun k hk => by
    have := congrArg (fun l => l[k]?) e3
    simpa [List.getElem?_take, hk] using this
  repeat' split
  all_goals first
    | rfl
    | omega
    | (rw [e4 _ (by omega)])
    | (congr 1; omega)
    | (rw [List.getElem?_eq_none (by omega)])
    | (symm; rw [List.getElem?_eq_none (by omega)])

theorem grow_splice {α : Type} (C0 xs x : List α) (a b a' b' : Nat) (hC : C0.take a = xs.take a) (hxl : xs.length = b) (hab : a ≤ b) (ha : a' = a + x.length) (hb : b' = b + x.length) (hl : b' ≤ C0.length) :
    (splice (splice C0 a x) a' (xs.drop a)).take b' = xs.take a ++ (x ++ xs.drop a) := by
  subst ha hb
  unfold splice
  rw [← hC]
  have e1 : (C0.take a).length = a := by rw [List.length_take]; omega
  have e2 : (C0.take a ++ (x ++ C0.drop (a + x.length))).take (a + x.length) = C0.take a ++ x := by
    rw [← List.append_assoc]
    exact List.take_left' (by rw [List.length_append, e1])
  rw [e2, ← List.append_assoc (C0.take a ++ x), List.take_left' (by simp only [List.length_append, List.length_drop, e1]; omega), List.append_assoc]

set_option maxRecDepth 100000 in
set_option maxHeartbeats 1600000 in
theorem ins37_end (B : Nat) (s : Value) (n : Nat) (xs x : List Value) (vb : Nat) (w : World) (hown : w.ownsRow B 49 11 s n xs) (hn : n ≤ 1000) (hB : B ≤ w.heap.size)
    (hx1 : ∀ u ∈ x, u.oneCell' = true) (hxl : x.length = 11) (hv : Row w vb 0 x) :
    Calls Try.prog 37 #[s, .int .i64 n, .slice (some ⟨vb, 0, none⟩) 1 1] w (Inserted w B 49 11 s n n xs x) := by
  obtain ⟨i0, hi0, hz0, hz1, hz2⟩ := info_parts Try.info49
  obtain ⟨v', w', hr, ho, hgr, hbk⟩ := run_append_own2 w B 104 104 49 i0 _ 11 120 Try.ul104 hi0 hz0 hz1 hz2 rfl (by decide) s n xs hown ⟨vb, 0, none⟩ 1 1 x (by omega) (fun j v hj => by rw [add_lit]; exact hv j v hj) hx1 (by unfold maxLen; omega) (by omega) hB (by decide)
  have hlx := hown.1
  have key : Inserted w B 49 11 s n n xs x (.returned v') w' := by
    refine ⟨v', rfl, ?_, hgr, hbk⟩
    rw [List.take_of_length_le (by omega), List.drop_eq_nil_of_le (by omega)]
    simpa using ho
  have HK := Lib.hid key
  have HR := Lib.hid hr
  have hs2 := hown.2
  clear key hr ho hgr hbk hown hlx hi0 hz0 hz1 hz2
  rcases hs2 with ⟨rfl, rfl⟩ | ⟨g, cap, cur, rfl, hbg, hg, hnc, hcm, hcs, htake⟩
  · go_enter Try.func37, Try.ntmps37
    go_wp2_with ((with_reducible refine wpList_dst 25 ?_); refine Lib.wpList_append_run w rfl (.tmp 23) (.tmp 24) 104 104 rfl _ _ rfl rfl v' w' HR.out ?_)
    go_ret
    exact HK.out
  · clear hg hcs htake hcm
    by_cases hc : cap = n
    · subst hc
      go_enter Try.func37, Try.ntmps37
      go_wp2_with ((with_reducible refine wpList_dst 25 ?_); refine Lib.wpList_append_run w rfl (.tmp 23) (.tmp 24) 104 104 rfl _ _ rfl rfl v' w' HR.out ?_)
      go_ret
      exact HK.out
    · go_enter Try.func37, Try.ntmps37
      go_wp2_with ((with_reducible refine wpList_dst 25 ?_); refine Lib.wpList_append_run w rfl (.tmp 23) (.tmp 24) 104 104 rfl _ _ rfl rfl v' w' HR.out ?_)
      go_ret
      exact HK.out

set_option maxRecDepth 100000 in
set_option maxHeartbeats 1600000 in
theorem ins37_shift (B : Nat) (g cap n i : Nat) (xs x cur : List Value) (vb : Nat) (w : World) (hg : w.heap[g]? = some (.cells cur.toArray 49 (0, 0))) (hBg : B ≤ g) (hcs : cur.length = cap * 11) (htake : cur.take (n * 11) = xs) (hxs : xs.length = n * 11) (hroom : n + 1 ≤ cap) (hcm : cap ≤ maxLen) (hin : i < n) (hn : n ≤ 1000)
    (h1 : ∀ u ∈ xs, u.oneCell' = true) (hx1 : ∀ u ∈ x, u.oneCell' = true) (hxl : x.length = 11) (hv : w.heap[vb]? = some (.cells x.toArray 49 (0, 0))) (hne : vb ≠ g) :
    Calls Try.prog 37 #[.slice (some ⟨g, 0, none⟩) n cap, .int .i64 i, .slice (some ⟨vb, 0, none⟩) 1 1] w (Inserted w B 49 11 (.slice (some ⟨g, 0, none⟩) n cap) n i xs x) := by
  have hov : ∀ lb cb, (callFunc 74 #[.slice (some ⟨vb, 0, none⟩) 1 1, .slice (some ⟨g, (i + 1) * 11, none⟩) lb cb]).run Try.prog w = .ok (.value (.bool false)) w := fun lb cb => by
    rw [run_callFunc_extern Try.func74 (by kernel_rfl) (by kernel_rfl) (by kernel_rfl) (e := Extern.SlicesOverlaps.overlaps #[104, 104] #[4]) (by kernel_rfl),
      Lib.run_overlaps_apart w 104 4 49 Try.ul104 11 Try.size49 ⟨vb, 0, none⟩ ⟨g, (i + 1) * 11, none⟩ 1 1 lb cb hne 49 49 x.length cur.length (by simp [World.shape?, hv]) (by simp [World.shape?, hg]) (by rw [hcs]; omega) (by simp [World.frozen?, hv]) (by simp [World.frozen?, hv])]
    rfl
  obtain ⟨W1, hW1⟩ : ∃ W1, W1 = w.drew.setRow g (splice cur ((i + 1) * 11) (xs.drop (i * 11))).toArray := ⟨_, rfl⟩
  have hg1 : W1.heap[g]? = some (.cells (splice cur ((i + 1) * 11) (xs.drop (i * 11))).toArray 49 (0, 0)) := by rw [hW1]; exact setRow_heap w.drew g _ _ _ _ hg
  obtain ⟨W2, hW2⟩ : ∃ W2, W2 = W1.setRow g (splice (splice cur ((i + 1) * 11) (xs.drop (i * 11))) (i * 11) x).toArray := ⟨_, rfl⟩
  have hdl : (xs.drop (i * 11)).length = (n - i) * 11 := by rw [List.length_drop, hxs, Nat.sub_mul]
  have hl1 : (splice cur ((i + 1) * 11) (xs.drop (i * 11))).length = cur.length := length_splice _ _ _ (by rw [hdl, hcs, ← Nat.add_mul]; exact Nat.mul_le_mul_right _ (by omega))
  have hmin : Nat.min (n + 1 - i) (n - i) = n - i := by simp only [Nat.min_def]; split <;> omega
  have hmin2 : Nat.min 1 (n + 1 - i) = 1 := by simp only [Nat.min_def]; split <;> omega
  have hc1 : ∀ dc sc, (Builtin.copy_ #[104, 104] 3 #[.slice (some ⟨g, (i + 1) * 11, none⟩) (n - i) dc, .slice (some ⟨g, i * 11, none⟩) (n + 1 - i) sc]).run Try.prog w.drew = .ok (goInt ((n - i : Nat) : Int)) W1 := fun dc sc => by
    have := run_copy_sz (P := Try.prog) w.drew 104 104 3 49 11 Try.ul104 Try.size49 g ((i + 1) * 11) (n - i) dc ⟨g, i * 11, none⟩ (n + 1 - i) sc cur 49 hg (xs.drop (i * 11)) (by rw [hmin, hdl]) (fun j v hj => by
      rw [add_lit, cell_of_row w.drew g _ _ 49 (0, 0) hg]
      rw [List.getElem?_drop, ← htake, List.getElem?_take] at hj
      split at hj
      · simpa using hj
      · cases hj) (by rw [hdl, hcs, ← Nat.add_mul]; exact Nat.mul_le_mul_right _ (by omega)) (fun v hv => h1 v (List.mem_of_mem_drop hv))
    rw [this, hmin, hW1]
  have hc2 : ∀ dc, (Builtin.copy_ #[104, 104] 3 #[.slice (some ⟨g, i * 11, none⟩) (n + 1 - i) dc, .slice (some ⟨vb, 0, none⟩) 1 1]).run Try.prog W1 = .ok (goInt ((1 : Nat) : Int)) W2 := fun dc => by
    have := run_copy_sz (P := Try.prog) W1 104 104 3 49 11 Try.ul104 Try.size49 g (i * 11) (n + 1 - i) dc ⟨vb, 0, none⟩ 1 1 _ 49 hg1 x (by rw [hmin2, hxl]) (fun j v hj => by
      rw [add_lit, World.cell?_of_block (w := w) (by rw [hW1]; exact setRow_other _ _ _ _ hne)]
      exact row_of_block hv j v hj) (by rw [hl1, hxl, hcs, ← Nat.succ_mul]; exact Nat.mul_le_mul_right _ (by omega)) hx1
    rw [this, hmin2, hW2]
  have hg2 : W2.heap[g]? = some (.cells (splice (splice cur ((i + 1) * 11) (xs.drop (i * 11))) (i * 11) x).toArray 49 (0, 0)) := by rw [hW2]; exact setRow_heap _ g _ _ _ _ hg1
  have hgr : w.grownBy W2 (some g) := ⟨by rw [hW2, hW1]; rfl, by rw [hW2, hW1]; rfl, by rw [hW2, hW1]; rfl, by rw [hW2, hW1]; simp, fun k hk hkg => by
    have hkg' : k ≠ g := fun h => hkg (by rw [h])
    rw [hW2, setRow_other _ _ _ _ hkg', hW1, setRow_other _ _ _ _ hkg']; rfl⟩
  have key : Inserted w B 49 11 (.slice (some ⟨g, 0, none⟩) n cap) n i xs x (.returned (.slice (some ⟨g, 0, none⟩) (n + 1) cap)) W2 := by
    refine ⟨_, rfl, ⟨?_, .inr ⟨g, cap, _, rfl, hBg, hg2, hroom, hcm, ?_, ?_⟩⟩, hgr, .inl rfl⟩
    · simp only [List.length_append, List.length_take, List.length_drop, hxs, hxl]
      have := Nat.mul_le_mul_right 11 (Nat.le_of_lt hin)
      rw [Nat.add_mul]
      omega
    · rw [List.size_toArray, length_splice _ _ _ (by rw [hl1, hxl, hcs, ← Nat.succ_mul]; exact Nat.mul_le_mul_right _ (by omega)), hl1, hcs]
    · have hi2 := Nat.mul_le_mul_right 11 (Nat.le_of_lt hin)
      have hi3 := Nat.mul_le_mul_right 11 hroom
      have e1 : (i + 1) * 11 = i * 11 + 11 := Nat.succ_mul _ _
      have e2 : (n + 1) * 11 = n * 11 + 11 := Nat.succ_mul _ _
      have e3 : cur.take (i * 11) = xs.take (i * 11) := by rw [← htake, List.take_take, Nat.min_eq_left hi2]
      apply insert_splice cur xs x (i * 11) (n * 11) ((i + 1) * 11) ((n + 1) * 11) <;> (try rw [hxl]) <;> first | assumption | omega
  have HK := Lib.hid key
  have HOV := Lib.hid hov
  have HC1 := Lib.hid hc1
  have HC2 := Lib.hid hc2
  have hcm' : cap ≤ 9223372036854775807 := by unfold maxLen at hcm; omega
  clear key hov hc1 hc2 hg2 hgr hg1 hW1 hW2 hg htake hxs hcs hmin hmin2 hdl hl1 hv h1 hx1 hcm
  have hz2 : ¬ ((i : Int) = (n : Int)) := by omega
  have hw1 : IntKind.i64.wrap ((i : Int) + 1) = (i : Int) + 1 := by rw [IntKind.wrap_i64]; omega
  have hb1 : (0 : Int) ≤ (i : Int) + 1 := by omega
  have htn : ((i : Int) + 1).toNat = i + 1 := by omega
  have hb2 : ¬ (cap = i + 1) := by omega
  have hb3 : (i : Int) ≤ (n : Int) + 1 := by omega
  have hb4 : ¬ (cap = i) := by omega
  have hb5 : i ≤ n := by omega
  go_enter Try.func37, Try.ntmps37
  go_wp2_with (simp only [HOV.out])
  go_region_law (refine step_copy_run (.tmp 73) (.tmp 76) 104 104 rfl rfl (v := .slice (some ⟨g, (i + 1) * 11, none⟩) (n - i) (cap - (i + 1))) (u := .slice (some ⟨g, i * 11, none⟩) (n + 1 - i) (cap - i)) (by simp [Act.eval, Act.put]) (by simp [Act.eval, Act.put]) (HC1.out (cap - (i + 1)) (cap - i)) ?_)
  go_wp2_with ((with_reducible refine wpList_dst 82 ?_); go_loud (refine wpList_copy_run (.tmp 80) (.tmp 81) 104 104 rfl rfl rfl rfl (HC2.out (cap - i)) ?_))
  go_ret
  exact HK.out

set_option maxRecDepth 100000 in
set_option maxHeartbeats 1600000 in
theorem ins37_grow (B : Nat) (g cap n i : Nat) (xs x : List Value) (vb : Nat) (w : World) (hr : Row w g 0 xs) (hgw : g < w.heap.size) (hB : B ≤ w.heap.size) (hxs : xs.length = n * 11) (hroom : cap < n + 1) (hnc : n ≤ cap) (hin : i < n) (hn : n ≤ 1000)
    (h1 : ∀ u ∈ xs, u.oneCell' = true) (hx1 : ∀ u ∈ x, u.oneCell' = true) (hxl : x.length = 11) (hv : Row w vb 0 x) (hvw : vb < w.heap.size) :
    Calls Try.prog 37 #[.slice (some ⟨g, 0, none⟩) n cap, .int .i64 i, .slice (some ⟨vb, 0, none⟩) 1 1] w (Inserted w B 49 11 (.slice (some ⟨g, 0, none⟩) n cap) n i xs x) := by
  obtain ⟨i0, hi0, hz0, hz1, hz2⟩ := info_parts Try.info49
  have hik : i + (n + 1 - i) = n + 1 := by omega
  have hin2 := Nat.mul_le_mul_right 11 (Nat.le_of_lt hin)
  have htl : (xs.take (i * 11)).length = i * 11 := by rw [List.length_take, hxs]; omega
  have hold : (Builtin.firstCells i0.size i (.slice (some ⟨g, 0, none⟩) i cap)).run Try.prog w.drew = .ok (xs.take (i * 11)).toArray w.drew := by
    rw [hz1]
    exact run_firstCells_some w.drew 11 i ⟨g, 0, none⟩ i cap _ htl (fun j v hj => by
      rw [add_lit]
      rw [List.getElem?_take] at hj
      split at hj
      · exact hr j v hj
      · cases hj)
  have hrz := Lib.run_append_grow_zeros (P := Try.prog) w 104 3 104 49 i0 _ .i64 .i64 Try.ul104 (by kernel_rfl) hi0 hz0 (some ⟨g, 0, none⟩) i cap _ hold (n + 1 - i) (by omega) (by omega) (by omega) (by omega) (by rw [hz2]; omega) (by rw [hz2, hik]; exact growslice_fits hroom (by omega))
  rw [hik] at hrz
  have hge := grownCap_ge w (n + 1) cap 49
  have hle := grownCap_le_maxLen w (n + 1) cap 49 (by unfold maxLen; omega)
  generalize grownCap w (n + 1) cap 49 = G at hrz hge hle
  obtain ⟨C0, hC0⟩ : ∃ C0 : List Value, C0.toArray = (xs.take (i * 11)).toArray ++ Builtin.zeroCells (.agg #[.int .i64 0, .int .i64 0, .int .i64 0, .int .i64 0, .int .i64 0, .bool false, .int .i64 0, .slice none 0 0, .slice none 0 0, .bool false, .int .i64 0] : Value).cells (n + 1 - i) ++ Builtin.zeroCells (.agg #[.int .i64 0, .int .i64 0, .int .i64 0, .int .i64 0, .int .i64 0, .bool false, .int .i64 0, .slice none 0 0, .slice none 0 0, .bool false, .int .i64 0] : Value).cells (G - (n + 1)) := ⟨_, Array.toArray_toList⟩
  rw [← hC0] at hrz
  have hCl : C0.length = G * 11 := by
    have := congrArg Array.size hC0
    simp only [List.size_toArray, Array.size_append, size_zeroCells, htl] at this
    rw [this]
    show i * 11 + (n + 1 - i) * 11 + (G - (n + 1)) * 11 = G * 11
    rw [← Nat.add_mul, ← Nat.add_mul]
    congr 1
    omega
  have hCt : C0.take (i * 11) = xs.take (i * 11) := by
    have := congrArg Array.toList hC0
    simp only [Array.toList_append, List.append_assoc] at this
    rw [this]
    exact List.take_left' htl
  obtain ⟨N, hN⟩ : ∃ N, N = w.heap.size := ⟨_, rfl⟩
  obtain ⟨W1, hW1⟩ : ∃ W1, W1 = w.drew.alloc (.cells C0.toArray 49) := ⟨_, rfl⟩
  rw [← hW1, ← hN] at hrz
  have hg1 : W1.heap[N]? = some (.cells C0.toArray 49 (0, 0)) := by rw [hW1, hN]; exact heap_alloc_new w.drew _
  have hb1 : Below w.heap.size w W1 := by rw [hW1]; exact ((Below.refl _ w).drew).alloc (Nat.le_refl _) _
  obtain ⟨W2, hW2⟩ : ∃ W2, W2 = W1.setRow N (splice C0 (i * 11) x).toArray := ⟨_, rfl⟩
  have hg2 : W2.heap[N]? = some (.cells (splice C0 (i * 11) x).toArray 49 (0, 0)) := by rw [hW2]; exact setRow_heap _ N _ _ _ _ hg1
  have hb2 : Below w.heap.size w W2 := by rw [hW2]; exact below_setRow hb1 (by omega) _
  obtain ⟨W3, hW3⟩ : ∃ W3, W3 = W2.drew.setRow N (splice (splice C0 (i * 11) x) ((i + 1) * 11) (xs.drop (i * 11))).toArray := ⟨_, rfl⟩
  have hg3 : W3.heap[N]? = some (.cells (splice (splice C0 (i * 11) x) ((i + 1) * 11) (xs.drop (i * 11))).toArray 49 (0, 0)) := by rw [hW3]; exact setRow_heap _ N _ _ _ _ hg2
  have hb3 : Below w.heap.size w W3 := by rw [hW3]; exact below_setRow hb2.drew (by omega) _
  have hdl : (xs.drop (i * 11)).length = (n - i) * 11 := by rw [List.length_drop, hxs, Nat.sub_mul]
  have e1 : (i + 1) * 11 = i * 11 + 11 := Nat.succ_mul _ _
  have e2 : (n + 1) * 11 = n * 11 + 11 := Nat.succ_mul _ _
  have e3 := Nat.mul_le_mul_right 11 hge
  have e4 : (n - i) * 11 = n * 11 - i * 11 := Nat.sub_mul _ _ _
  have hl1 : (splice C0 (i * 11) x).length = C0.length := length_splice _ _ _ (by omega)
  have hmin : Nat.min 1 (n + 1 - i) = 1 := by simp only [Nat.min_def]; split <;> omega
  have hmin2 : Nat.min (n - i) (n - i) = n - i := by simp only [Nat.min_def]; split <;> omega
  have hc1 : ∀ dc, (Builtin.copy_ #[104, 104] 3 #[.slice (some ⟨N, i * 11, none⟩) (n + 1 - i) dc, .slice (some ⟨vb, 0, none⟩) 1 1]).run Try.prog W1 = .ok (goInt ((1 : Nat) : Int)) W2 := fun dc => by
    have := run_copy_sz (P := Try.prog) W1 104 104 3 49 11 Try.ul104 Try.size49 N (i * 11) (n + 1 - i) dc ⟨vb, 0, none⟩ 1 1 _ 49 hg1 x (by rw [hmin, hxl]) (fun j v hj => by
      rw [add_lit]; exact (hv.below hb1 hvw) j v hj) (by omega) hx1
    rw [this, hmin, hW2]
  have hc2 : ∀ dc sc, (Builtin.copy_ #[104, 104] 3 #[.slice (some ⟨N, (i + 1) * 11, none⟩) (n - i) dc, .slice (some ⟨g, i * 11, none⟩) (n - i) sc]).run Try.prog W2.drew = .ok (goInt ((n - i : Nat) : Int)) W3 := fun dc sc => by
    have := run_copy_sz (P := Try.prog) W2.drew 104 104 3 49 11 Try.ul104 Try.size49 N ((i + 1) * 11) (n - i) dc ⟨g, i * 11, none⟩ (n - i) sc _ 49 hg2 (xs.drop (i * 11)) (by rw [hmin2, hdl]) (fun j v hj => by
      rw [add_lit]
      rw [List.getElem?_drop] at hj
      have := (hr.below hb2.drew hgw) _ v hj
      rw [Nat.zero_add] at this
      exact this) (by omega) (fun v hv => h1 v (List.mem_of_mem_drop hv))
    rw [this, hmin2, hW3]
  have key : Inserted w B 49 11 (.slice (some ⟨g, 0, none⟩) n cap) n i xs x (.returned (.slice (some ⟨N, 0, none⟩) (n + 1) G)) W3 := by
    refine ⟨_, rfl, ⟨?_, .inr ⟨N, G, _, rfl, by omega, hg3, hge, hle, ?_, ?_⟩⟩, ?_, .inr (by simp [Value.ownBlock, hN])⟩
    · simp only [List.length_append, List.length_take, List.length_drop, hxs, hxl]
      omega
    · rw [List.size_toArray, length_splice _ _ _ (by omega), hl1, hCl]
    · apply grow_splice C0 xs x (i * 11) (n * 11) ((i + 1) * 11) ((n + 1) * 11) hCt hxs <;> omega
    · exact ⟨hb3.os, hb3.tape, hb3.output, hb3.size, fun k hk _ => hb3.block k hk⟩
  have HK := Lib.hid key
  have HR := Lib.hid hrz
  have HC1 := Lib.hid hc1
  have HC2 := Lib.hid hc2
  have hcm' : cap ≤ 9223372036854775807 := by omega
  have hGm' : G ≤ 9223372036854775807 := by unfold maxLen at hle; omega
  clear key hrz hc1 hc2 hg1 hg2 hg3 hb1 hb2 hb3 hW1 hW2 hW3 hdl e1 e2 e3 e4 hl1 hmin hmin2 hv h1 hx1 hle hCl hCt hC0 hold htl hin2 hik hi0 hz0 hz1 hz2 hr hN hxs
  have hz2 : ¬ ((i : Int) = (n : Int)) := by omega
  have hkk : (n : Int) + 1 - (i : Int) = ((n + 1 - i : Nat) : Int) := by omega
  have HKK := Lib.hid hkk
  clear hkk
  have hw1 : IntKind.i64.wrap ((i : Int) + 1) = (i : Int) + 1 := by rw [IntKind.wrap_i64]; omega
  have hb1 : (0 : Int) ≤ (i : Int) + 1 := by omega
  have htn : ((i : Int) + 1).toNat = i + 1 := by omega
  have hb2 : ¬ (G = i + 1) := by omega
  have hb3 : (i : Int) ≤ (n : Int) + 1 := by omega
  have hb4 : ¬ (cap = i) := by omega
  have hb5 : i ≤ n := by omega
  have hb6 : ¬ (G = i) := by omega
  go_enter Try.func37, Try.ntmps37
  go_wp2_with (first
    | ((with_reducible refine wpList_dst 40 ?_); go_loud (rw [HKK.out]; refine Lib.wpList_append_run w rfl (.tmp 34) (.tmp 39) 104 3 rfl _ _ rfl rfl _ W1 HR.out ?_))
    | ((with_reducible refine wpList_dst 45 ?_); go_loud (refine wpList_copy_run (.tmp 43) (.tmp 44) 104 104 rfl rfl rfl rfl (HC1.out (G - i)) ?_)))
  go_region_law (refine step_copy_run (.tmp 50) (.tmp 53) 104 104 rfl rfl (v := .slice (some ⟨N, (i + 1) * 11, none⟩) (n - i) (G - (i + 1))) (u := .slice (some ⟨g, i * 11, none⟩) (n - i) (cap - i)) (by simp [Act.eval, Act.put]) (by simp [Act.eval, Act.put]) (HC2.out (G - (i + 1)) (cap - i)) ?_)
  go_wp2
  go_ret
  exact HK.out

/-- slices.Insert of one element. -/
theorem ins37 (B : Nat) (s : Value) (n i : Nat) (xs x : List Value) (vb : Nat) (w : World) (hown : w.ownsRow B 49 11 s n xs) (hi : i ≤ n) (hn : n ≤ 1000) (hB : B ≤ w.heap.size)
    (h1 : ∀ u ∈ xs, u.oneCell' = true) (hx1 : ∀ u ∈ x, u.oneCell' = true) (hxl : x.length = 11) (hv : w.heap[vb]? = some (.cells x.toArray 49 (0, 0))) (hne : s.ownBlock ≠ some vb) :
    Calls Try.prog 37 #[s, .int .i64 i, .slice (some ⟨vb, 0, none⟩) 1 1] w (Inserted w B 49 11 s n i xs x) := by
  have hvr : Row w vb 0 x := row_of_block hv
  have hvw : vb < w.heap.size := (Array.getElem?_eq_some_iff.1 hv).1
  by_cases hin : i = n
  · subst hin
    exact ins37_end B s i xs x vb w hown hn hB hx1 hxl hvr
  · have hxs := hown.1
    have hcells := fun g (h : s.ownBlock = some g) => hown.cells h
    rcases hown.2 with ⟨rfl, rfl⟩ | ⟨g, cap, cur, rfl, hbg, hg, hnc, hcm, hcs, htake⟩
    · omega
    · by_cases hroom : n + 1 ≤ cap
      · exact ins37_shift B g cap n i xs x cur.toList vb w (by simpa using hg) hbg (by simpa using hcs) htake hxs hroom hcm (by omega) hn h1 hx1 hxl hv (fun h => hne (by simp [Value.ownBlock, h]))
      · exact ins37_grow B g cap n i xs x vb w (fun j v hj => by have := hcells g rfl j v hj; rwa [add_lit] at this) (Array.getElem?_eq_some_iff.1 hg).1 hB hxs (by omega) hnc (by omega) hn h1 hx1 hxl hvr hvw

set_option maxRecDepth 100000 in
set_option maxHeartbeats 1600000 in
theorem ins34_end (B : Nat) (s : Value) (n : Nat) (xs x : List Value) (vb : Nat) (w : World) (hown : w.ownsRow B 106 3 s n xs) (hn : n ≤ 1000) (hB : B ≤ w.heap.size)
    (hx1 : ∀ u ∈ x, u.oneCell' = true) (hxl : x.length = 3) (hv : Row w vb 0 x) :
    Calls Try.prog 34 #[s, .int .i64 n, .slice (some ⟨vb, 0, none⟩) 1 1] w (Inserted w B 106 3 s n n xs x) := by
  obtain ⟨i0, hi0, hz0, hz1, hz2⟩ := info_parts Try.info106
  obtain ⟨v', w', hr, ho, hgr, hbk⟩ := run_append_own2 w B 37 37 106 i0 _ 3 40 Try.ul37 hi0 hz0 hz1 hz2 rfl (by decide) s n xs hown ⟨vb, 0, none⟩ 1 1 x (by omega) (fun j v hj => by rw [add_lit]; exact hv j v hj) hx1 (by unfold maxLen; omega) (by omega) hB (by decide)
  have hlx := hown.1
  have key : Inserted w B 106 3 s n n xs x (.returned v') w' := by
    refine ⟨v', rfl, ?_, hgr, hbk⟩
    rw [List.take_of_length_le (by omega), List.drop_eq_nil_of_le (by omega)]
    simpa using ho
  have HK := Lib.hid key
  have HR := Lib.hid hr
  have hs2 := hown.2
  clear key hr ho hgr hbk hown hlx hi0 hz0 hz1 hz2
  rcases hs2 with ⟨rfl, rfl⟩ | ⟨g, cap, cur, rfl, hbg, hg, hnc, hcm, hcs, htake⟩
  · go_enter Try.func34, Try.ntmps34
    go_wp2_with ((with_reducible refine wpList_dst 25 ?_); refine Lib.wpList_append_run w rfl (.tmp 23) (.tmp 24) 37 37 rfl _ _ rfl rfl v' w' HR.out ?_)
    go_ret
    exact HK.out
  · clear hg hcs htake hcm
    by_cases hc : cap = n
    · subst hc
      go_enter Try.func34, Try.ntmps34
      go_wp2_with ((with_reducible refine wpList_dst 25 ?_); refine Lib.wpList_append_run w rfl (.tmp 23) (.tmp 24) 37 37 rfl _ _ rfl rfl v' w' HR.out ?_)
      go_ret
      exact HK.out
    · go_enter Try.func34, Try.ntmps34
      go_wp2_with ((with_reducible refine wpList_dst 25 ?_); refine Lib.wpList_append_run w rfl (.tmp 23) (.tmp 24) 37 37 rfl _ _ rfl rfl v' w' HR.out ?_)
      go_ret
      exact HK.out

set_option maxRecDepth 100000 in
set_option maxHeartbeats 1600000 in
theorem ins34_shift (B : Nat) (g cap n i : Nat) (xs x cur : List Value) (vb : Nat) (w : World) (hg : w.heap[g]? = some (.cells cur.toArray 106 (0, 0))) (hBg : B ≤ g) (hcs : cur.length = cap * 3) (htake : cur.take (n * 3) = xs) (hxs : xs.length = n * 3) (hroom : n + 1 ≤ cap) (hcm : cap ≤ maxLen) (hin : i < n) (hn : n ≤ 1000)
    (h1 : ∀ u ∈ xs, u.oneCell' = true) (hx1 : ∀ u ∈ x, u.oneCell' = true) (hxl : x.length = 3) (hv : w.heap[vb]? = some (.cells x.toArray 106 (0, 0))) (hne : vb ≠ g) :
    Calls Try.prog 34 #[.slice (some ⟨g, 0, none⟩) n cap, .int .i64 i, .slice (some ⟨vb, 0, none⟩) 1 1] w (Inserted w B 106 3 (.slice (some ⟨g, 0, none⟩) n cap) n i xs x) := by
  have hov : ∀ lb cb, (callFunc 72 #[.slice (some ⟨vb, 0, none⟩) 1 1, .slice (some ⟨g, (i + 1) * 3, none⟩) lb cb]).run Try.prog w = .ok (.value (.bool false)) w := fun lb cb => by
    rw [run_callFunc_extern Try.func72 (by kernel_rfl) (by kernel_rfl) (by kernel_rfl) (e := Extern.SlicesOverlaps.overlaps #[37, 37] #[4]) (by kernel_rfl),
      Lib.run_overlaps_apart w 37 4 106 Try.ul37 3 Try.size106 ⟨vb, 0, none⟩ ⟨g, (i + 1) * 3, none⟩ 1 1 lb cb hne 106 106 x.length cur.length (by simp [World.shape?, hv]) (by simp [World.shape?, hg]) (by rw [hcs]; omega) (by simp [World.frozen?, hv]) (by simp [World.frozen?, hv])]
    rfl
  obtain ⟨W1, hW1⟩ : ∃ W1, W1 = w.drew.setRow g (splice cur ((i + 1) * 3) (xs.drop (i * 3))).toArray := ⟨_, rfl⟩
  have hg1 : W1.heap[g]? = some (.cells (splice cur ((i + 1) * 3) (xs.drop (i * 3))).toArray 106 (0, 0)) := by rw [hW1]; exact setRow_heap w.drew g _ _ _ _ hg
  obtain ⟨W2, hW2⟩ : ∃ W2, W2 = W1.setRow g (splice (splice cur ((i + 1) * 3) (xs.drop (i * 3))) (i * 3) x).toArray := ⟨_, rfl⟩
  have hdl : (xs.drop (i * 3)).length = (n - i) * 3 := by rw [List.length_drop, hxs, Nat.sub_mul]
  have hl1 : (splice cur ((i + 1) * 3) (xs.drop (i * 3))).length = cur.length := length_splice _ _ _ (by rw [hdl, hcs, ← Nat.add_mul]; exact Nat.mul_le_mul_right _ (by omega))
  have hmin : Nat.min (n + 1 - i) (n - i) = n - i := by simp only [Nat.min_def]; split <;> omega
  have hmin2 : Nat.min 1 (n + 1 - i) = 1 := by simp only [Nat.min_def]; split <;> omega
  have hc1 : ∀ dc sc, (Builtin.copy_ #[37, 37] 3 #[.slice (some ⟨g, (i + 1) * 3, none⟩) (n - i) dc, .slice (some ⟨g, i * 3, none⟩) (n + 1 - i) sc]).run Try.prog w.drew = .ok (goInt ((n - i : Nat) : Int)) W1 := fun dc sc => by
    have := run_copy_sz (P := Try.prog) w.drew 37 37 3 106 3 Try.ul37 Try.size106 g ((i + 1) * 3) (n - i) dc ⟨g, i * 3, none⟩ (n + 1 - i) sc cur 106 hg (xs.drop (i * 3)) (by rw [hmin, hdl]) (fun j v hj => by
      rw [add_lit, cell_of_row w.drew g _ _ 106 (0, 0) hg]
      rw [List.getElem?_drop, ← htake, List.getElem?_take] at hj
      split at hj
      · simpa using hj
      · cases hj) (by rw [hdl, hcs, ← Nat.add_mul]; exact Nat.mul_le_mul_right _ (by omega)) (fun v hv => h1 v (List.mem_of_mem_drop hv))
    rw [this, hmin, hW1]
  have hc2 : ∀ dc, (Builtin.copy_ #[37, 37] 3 #[.slice (some ⟨g, i * 3, none⟩) (n + 1 - i) dc, .slice (some ⟨vb, 0, none⟩) 1 1]).run Try.prog W1 = .ok (goInt ((1 : Nat) : Int)) W2 := fun dc => by
    have := run_copy_sz (P := Try.prog) W1 37 37 3 106 3 Try.ul37 Try.size106 g (i * 3) (n + 1 - i) dc ⟨vb, 0, none⟩ 1 1 _ 106 hg1 x (by rw [hmin2, hxl]) (fun j v hj => by
      rw [add_lit, World.cell?_of_block (w := w) (by rw [hW1]; exact setRow_other _ _ _ _ hne)]
      exact row_of_block hv j v hj) (by rw [hl1, hxl, hcs, ← Nat.succ_mul]; exact Nat.mul_le_mul_right _ (by omega)) hx1
    rw [this, hmin2, hW2]
  have hg2 : W2.heap[g]? = some (.cells (splice (splice cur ((i + 1) * 3) (xs.drop (i * 3))) (i * 3) x).toArray 106 (0, 0)) := by rw [hW2]; exact setRow_heap _ g _ _ _ _ hg1
  have hgr : w.grownBy W2 (some g) := ⟨by rw [hW2, hW1]; rfl, by rw [hW2, hW1]; rfl, by rw [hW2, hW1]; rfl, by rw [hW2, hW1]; simp, fun k hk hkg => by
    have hkg' : k ≠ g := fun h => hkg (by rw [h])
    rw [hW2, setRow_other _ _ _ _ hkg', hW1, setRow_other _ _ _ _ hkg']; rfl⟩
  have key : Inserted w B 106 3 (.slice (some ⟨g, 0, none⟩) n cap) n i xs x (.returned (.slice (some ⟨g, 0, none⟩) (n + 1) cap)) W2 := by
    refine ⟨_, rfl, ⟨?_, .inr ⟨g, cap, _, rfl, hBg, hg2, hroom, hcm, ?_, ?_⟩⟩, hgr, .inl rfl⟩
    · simp only [List.length_append, List.length_take, List.length_drop, hxs, hxl]
      have := Nat.mul_le_mul_right 3 (Nat.le_of_lt hin)
      rw [Nat.add_mul]
      omega
    · rw [List.size_toArray, length_splice _ _ _ (by rw [hl1, hxl, hcs, ← Nat.succ_mul]; exact Nat.mul_le_mul_right _ (by omega)), hl1, hcs]
    · have hi2 := Nat.mul_le_mul_right 3 (Nat.le_of_lt hin)
      have hi3 := Nat.mul_le_mul_right 3 hroom
      have e1 : (i + 1) * 3 = i * 3 + 3 := Nat.succ_mul _ _
      have e2 : (n + 1) * 3 = n * 3 + 3 := Nat.succ_mul _ _
      have e3 : cur.take (i * 3) = xs.take (i * 3) := by rw [← htake, List.take_take, Nat.min_eq_left hi2]
      apply insert_splice cur xs x (i * 3) (n * 3) ((i + 1) * 3) ((n + 1) * 3) <;> (try rw [hxl]) <;> first | assumption | omega
  have HK := Lib.hid key
  have HOV := Lib.hid hov
  have HC1 := Lib.hid hc1
  have HC2 := Lib.hid hc2
  have hcm' : cap ≤ 9223372036854775807 := by unfold maxLen at hcm; omega
  clear key hov hc1 hc2 hg2 hgr hg1 hW1 hW2 hg htake hxs hcs hmin hmin2 hdl hl1 hv h1 hx1 hcm
  have hz2 : ¬ ((i : Int) = (n : Int)) := by omega
  have hw1 : IntKind.i64.wrap ((i : Int) + 1) = (i : Int) + 1 := by rw [IntKind.wrap_i64]; omega
  have hb1 : (0 : Int) ≤ (i : Int) + 1 := by omega
  have htn : ((i : Int) + 1).toNat = i + 1 := by omega
  have hb2 : ¬ (cap = i + 1) := by omega
  have hb3 : (i : Int) ≤ (n : Int) + 1 := by omega
  have hb4 : ¬ (cap = i) := by omega
  have hb5 : i ≤ n := by omega
  go_enter Try.func34, Try.ntmps34
  go_wp2_with (simp only [HOV.out])
  go_region_law (refine step_copy_run (.tmp 73) (.tmp 76) 37 37 rfl rfl (v := .slice (some ⟨g, (i + 1) * 3, none⟩) (n - i) (cap - (i + 1))) (u := .slice (some ⟨g, i * 3, none⟩) (n + 1 - i) (cap - i)) (by simp [Act.eval, Act.put]) (by simp [Act.eval, Act.put]) (HC1.out (cap - (i + 1)) (cap - i)) ?_)
  go_wp2_with ((with_reducible refine wpList_dst 82 ?_); go_loud (refine wpList_copy_run (.tmp 80) (.tmp 81) 37 37 rfl rfl rfl rfl (HC2.out (cap - i)) ?_))
  go_ret
  exact HK.out

set_option maxRecDepth 100000 in
set_option maxHeartbeats 1600000 in
theorem ins34_grow (B : Nat) (g cap n i : Nat) (xs x : List Value) (vb : Nat) (w : World) (hr : Row w g 0 xs) (hgw : g < w.heap.size) (hB : B ≤ w.heap.size) (hxs : xs.length = n * 3) (hroom : cap < n + 1) (hnc : n ≤ cap) (hin : i < n) (hn : n ≤ 1000)
    (h1 : ∀ u ∈ xs, u.oneCell' = true) (hx1 : ∀ u ∈ x, u.oneCell' = true) (hxl : x.length = 3) (hv : Row w vb 0 x) (hvw : vb < w.heap.size) :
    Calls Try.prog 34 #[.slice (some ⟨g, 0, none⟩) n cap, .int .i64 i, .slice (some ⟨vb, 0, none⟩) 1 1] w (Inserted w B 106 3 (.slice (some ⟨g, 0, none⟩) n cap) n i xs x) := by
  obtain ⟨i0, hi0, hz0, hz1, hz2⟩ := info_parts Try.info106
  have hik : i + (n + 1 - i) = n + 1 := by omega
  have hin2 := Nat.mul_le_mul_right 3 (Nat.le_of_lt hin)
  have htl : (xs.take (i * 3)).length = i * 3 := by rw [List.length_take, hxs]; omega
  have hold : (Builtin.firstCells i0.size i (.slice (some ⟨g, 0, none⟩) i cap)).run Try.prog w.drew = .ok (xs.take (i * 3)).toArray w.drew := by
    rw [hz1]
    exact run_firstCells_some w.drew 3 i ⟨g, 0, none⟩ i cap _ htl (fun j v hj => by
      rw [add_lit]
      rw [List.getElem?_take] at hj
      split at hj
      · exact hr j v hj
      · cases hj)
  have hrz := Lib.run_append_grow_zeros (P := Try.prog) w 37 3 37 106 i0 _ .i64 .i64 Try.ul37 (by kernel_rfl) hi0 hz0 (some ⟨g, 0, none⟩) i cap _ hold (n + 1 - i) (by omega) (by omega) (by omega) (by omega) (by rw [hz2]; omega) (by rw [hz2, hik]; exact growslice_fits hroom (by omega))
  rw [hik] at hrz
  have hge := grownCap_ge w (n + 1) cap 106
  have hle := grownCap_le_maxLen w (n + 1) cap 106 (by unfold maxLen; omega)
  generalize grownCap w (n + 1) cap 106 = G at hrz hge hle
  obtain ⟨C0, hC0⟩ : ∃ C0 : List Value, C0.toArray = (xs.take (i * 3)).toArray ++ Builtin.zeroCells (.agg #[.int .i64 0, .int .i64 0, .slice none 0 0] : Value).cells (n + 1 - i) ++ Builtin.zeroCells (.agg #[.int .i64 0, .int .i64 0, .slice none 0 0] : Value).cells (G - (n + 1)) := ⟨_, Array.toArray_toList⟩
  rw [← hC0] at hrz
  have hCl : C0.length = G * 3 := by
    have := congrArg Array.size hC0
    simp only [List.size_toArray, Array.size_append, size_zeroCells, htl] at this
    rw [this]
    show i * 3 + (n + 1 - i) * 3 + (G - (n + 1)) * 3 = G * 3
    rw [← Nat.add_mul, ← Nat.add_mul]
    congr 1
    omega
  have hCt : C0.take (i * 3) = xs.take (i * 3) := by
    have := congrArg Array.toList hC0
    simp only [Array.toList_append, List.append_assoc] at this
    rw [this]
    exact List.take_left' htl
  obtain ⟨N, hN⟩ : ∃ N, N = w.heap.size := ⟨_, rfl⟩
  obtain ⟨W1, hW1⟩ : ∃ W1, W1 = w.drew.alloc (.cells C0.toArray 106) := ⟨_, rfl⟩
  rw [← hW1, ← hN] at hrz
  have hg1 : W1.heap[N]? = some (.cells C0.toArray 106 (0, 0)) := by rw [hW1, hN]; exact heap_alloc_new w.drew _
  have hb1 : Below w.heap.size w W1 := by rw [hW1]; exact ((Below.refl _ w).drew).alloc (Nat.le_refl _) _
  obtain ⟨W2, hW2⟩ : ∃ W2, W2 = W1.setRow N (splice C0 (i * 3) x).toArray := ⟨_, rfl⟩
  have hg2 : W2.heap[N]? = some (.cells (splice C0 (i * 3) x).toArray 106 (0, 0)) := by rw [hW2]; exact setRow_heap _ N _ _ _ _ hg1
  have hb2 : Below w.heap.size w W2 := by rw [hW2]; exact below_setRow hb1 (by omega) _
  obtain ⟨W3, hW3⟩ : ∃ W3, W3 = W2.drew.setRow N (splice (splice C0 (i * 3) x) ((i + 1) * 3) (xs.drop (i * 3))).toArray := ⟨_, rfl⟩
  have hg3 : W3.heap[N]? = some (.cells (splice (splice C0 (i * 3) x) ((i + 1) * 3) (xs.drop (i * 3))).toArray 106 (0, 0)) := by rw [hW3]; exact setRow_heap _ N _ _ _ _ hg2
  have hb3 : Below w.heap.size w W3 := by rw [hW3]; exact below_setRow hb2.drew (by omega) _
  have hdl : (xs.drop (i * 3)).length = (n - i) * 3 := by rw [List.length_drop, hxs, Nat.sub_mul]
  have e1 : (i + 1) * 3 = i * 3 + 3 := Nat.succ_mul _ _
  have e2 : (n + 1) * 3 = n * 3 + 3 := Nat.succ_mul _ _
  have e3 := Nat.mul_le_mul_right 3 hge
  have e4 : (n - i) * 3 = n * 3 - i * 3 := Nat.sub_mul _ _ _
  have hl1 : (splice C0 (i * 3) x).length = C0.length := length_splice _ _ _ (by omega)
  have hmin : Nat.min 1 (n + 1 - i) = 1 := by simp only [Nat.min_def]; split <;> omega
  have hmin2 : Nat.min (n - i) (n - i) = n - i := by simp only [Nat.min_def]; split <;> omega
  have hc1 : ∀ dc, (Builtin.copy_ #[37, 37] 3 #[.slice (some ⟨N, i * 3, none⟩) (n + 1 - i) dc, .slice (some ⟨vb, 0, none⟩) 1 1]).run Try.prog W1 = .ok (goInt ((1 : Nat) : Int)) W2 := fun dc => by
    have := run_copy_sz (P := Try.prog) W1 37 37 3 106 3 Try.ul37 Try.size106 N (i * 3) (n + 1 - i) dc ⟨vb, 0, none⟩ 1 1 _ 106 hg1 x (by rw [hmin, hxl]) (fun j v hj => by
      rw [add_lit]; exact (hv.below hb1 hvw) j v hj) (by omega) hx1
    rw [this, hmin, hW2]
  have hc2 : ∀ dc sc, (Builtin.copy_ #[37, 37] 3 #[.slice (some ⟨N, (i + 1) * 3, none⟩) (n - i) dc, .slice (some ⟨g, i * 3, none⟩) (n - i) sc]).run Try.prog W2.drew = .ok (goInt ((n - i : Nat) : Int)) W3 := fun dc sc => by
    have := run_copy_sz (P := Try.prog) W2.drew 37 37 3 106 3 Try.ul37 Try.size106 N ((i + 1) * 3) (n - i) dc ⟨g, i * 3, none⟩ (n - i) sc _ 106 hg2 (xs.drop (i * 3)) (by rw [hmin2, hdl]) (fun j v hj => by
      rw [add_lit]
      rw [List.getElem?_drop] at hj
      have := (hr.below hb2.drew hgw) _ v hj
      rw [Nat.zero_add] at this
      exact this) (by omega) (fun v hv => h1 v (List.mem_of_mem_drop hv))
    rw [this, hmin2, hW3]
  have key : Inserted w B 106 3 (.slice (some ⟨g, 0, none⟩) n cap) n i xs x (.returned (.slice (some ⟨N, 0, none⟩) (n + 1) G)) W3 := by
    refine ⟨_, rfl, ⟨?_, .inr ⟨N, G, _, rfl, by omega, hg3, hge, hle, ?_, ?_⟩⟩, ?_, .inr (by simp [Value.ownBlock, hN])⟩
    · simp only [List.length_append, List.length_take, List.length_drop, hxs, hxl]
      omega
    · rw [List.size_toArray, length_splice _ _ _ (by omega), hl1, hCl]
    · apply grow_splice C0 xs x (i * 3) (n * 3) ((i + 1) * 3) ((n + 1) * 3) hCt hxs <;> omega
    · exact ⟨hb3.os, hb3.tape, hb3.output, hb3.size, fun k hk _ => hb3.block k hk⟩
  have HK := Lib.hid key
  have HR := Lib.hid hrz
  have HC1 := Lib.hid hc1
  have HC2 := Lib.hid hc2
  have hcm' : cap ≤ 9223372036854775807 := by omega
  have hGm' : G ≤ 9223372036854775807 := by unfold maxLen at hle; omega
  clear key hrz hc1 hc2 hg1 hg2 hg3 hb1 hb2 hb3 hW1 hW2 hW3 hdl e1 e2 e3 e4 hl1 hmin hmin2 hv h1 hx1 hle hCl hCt hC0 hold htl hin2 hik hi0 hz0 hz1 hz2 hr hN hxs
  have hz2 : ¬ ((i : Int) = (n : Int)) := by omega
  have hkk : (n : Int) + 1 - (i : Int) = ((n + 1 - i : Nat) : Int) := by omega
  have HKK := Lib.hid hkk
  clear hkk
  have hw1 : IntKind.i64.wrap ((i : Int) + 1) = (i : Int) + 1 := by rw [IntKind.wrap_i64]; omega
  have hb1 : (0 : Int) ≤ (i : Int) + 1 := by omega
  have htn : ((i : Int) + 1).toNat = i + 1 := by omega
  have hb2 : ¬ (G = i + 1) := by omega
  have hb3 : (i : Int) ≤ (n : Int) + 1 := by omega
  have hb4 : ¬ (cap = i) := by omega
  have hb5 : i ≤ n := by omega
  have hb6 : ¬ (G = i) := by omega
  go_enter Try.func34, Try.ntmps34
  go_wp2_with (first
    | ((with_reducible refine wpList_dst 40 ?_); go_loud (rw [HKK.out]; refine Lib.wpList_append_run w rfl (.tmp 34) (.tmp 39) 37 3 rfl _ _ rfl rfl _ W1 HR.out ?_))
    | ((with_reducible refine wpList_dst 45 ?_); go_loud (refine wpList_copy_run (.tmp 43) (.tmp 44) 37 37 rfl rfl rfl rfl (HC1.out (G - i)) ?_)))
  go_region_law (refine step_copy_run (.tmp 50) (.tmp 53) 37 37 rfl rfl (v := .slice (some ⟨N, (i + 1) * 3, none⟩) (n - i) (G - (i + 1))) (u := .slice (some ⟨g, i * 3, none⟩) (n - i) (cap - i)) (by simp [Act.eval, Act.put]) (by simp [Act.eval, Act.put]) (HC2.out (G - (i + 1)) (cap - i)) ?_)
  go_wp2
  go_ret
  exact HK.out

/-- slices.Insert of one element. -/
theorem ins34 (B : Nat) (s : Value) (n i : Nat) (xs x : List Value) (vb : Nat) (w : World) (hown : w.ownsRow B 106 3 s n xs) (hi : i ≤ n) (hn : n ≤ 1000) (hB : B ≤ w.heap.size)
    (h1 : ∀ u ∈ xs, u.oneCell' = true) (hx1 : ∀ u ∈ x, u.oneCell' = true) (hxl : x.length = 3) (hv : w.heap[vb]? = some (.cells x.toArray 106 (0, 0))) (hne : s.ownBlock ≠ some vb) :
    Calls Try.prog 34 #[s, .int .i64 i, .slice (some ⟨vb, 0, none⟩) 1 1] w (Inserted w B 106 3 s n i xs x) := by
  have hvr : Row w vb 0 x := row_of_block hv
  have hvw : vb < w.heap.size := (Array.getElem?_eq_some_iff.1 hv).1
  by_cases hin : i = n
  · subst hin
    exact ins34_end B s i xs x vb w hown hn hB hx1 hxl hvr
  · have hxs := hown.1
    have hcells := fun g (h : s.ownBlock = some g) => hown.cells h
    rcases hown.2 with ⟨rfl, rfl⟩ | ⟨g, cap, cur, rfl, hbg, hg, hnc, hcm, hcs, htake⟩
    · omega
    · by_cases hroom : n + 1 ≤ cap
      · exact ins34_shift B g cap n i xs x cur.toList vb w (by simpa using hg) hbg (by simpa using hcs) htake hxs hroom hcm (by omega) hn h1 hx1 hxl hv (fun h => hne (by simp [Value.ownBlock, h]))
      · exact ins34_grow B g cap n i xs x vb w (fun j v hj => by have := hcells g rfl j v hj; rwa [add_lit] at this) (Array.getElem?_eq_some_iff.1 hg).1 hB hxs (by omega) hnc (by omega) hn h1 hx1 hxl hvr hvw

end Go.Proofs.Ytihfikepfhcboaa
