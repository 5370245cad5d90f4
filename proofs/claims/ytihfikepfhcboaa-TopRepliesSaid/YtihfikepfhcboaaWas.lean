/- wasCached31, walked: it answers true. Conditions: each stands in its own theorem. -/
import Derived.Test.YtihfikepfhcboaaCached
namespace Go.Proofs.Ytihfikepfhcboaa
open Go.RowKit

/-- The cache variable of wasCached31. -/
structure WasAt (w : World) (g : Nat) (K : List Kep) (v : Value) (W : World) : Prop where
  below : Below w.heap.size w W
  g0 : w.heap.size ≤ g
  c : W.heap[g]? = some (.cells #[.int .i64 2, v] 39 (0, 0))
  own : ∃ qs, OwnCache W (g + 1) v qs ∧ qs.map (·.1) = K
theorem WasAt.lt {w : World} {g : Nat} {K : List Kep} {v : Value} {W : World} (h : WasAt w g K v W) : g < W.heap.size := (Array.getElem?_eq_some_iff.1 h.c).1
theorem WasAt.cells {w : World} {g : Nat} {K : List Kep} {v : Value} {W : World} (h : WasAt w g K v W) : (∀ j, W.cell? ⟨g, j, none⟩ = [.int .i64 2, v][j]?) ∧ (∀ j, W.frozen? ⟨g, j, none⟩ = false) :=
  ⟨blk_cells (cs := [_, _]) h.c, blk_free h.c⟩
theorem WasAt.step {w : World} {g : Nat} {K : List Kep} {v : Value} {W W' : World} (h : WasAt w g K v W) (hb : Below W.heap.size W W') : WasAt w g K v W' := by
  have hl := h.lt
  have h0 := h.g0
  obtain ⟨qs, h1, h2⟩ := h.own
  exact ⟨h.below.trans (hb.mono (by omega)), h0, by rw [hb.block _ (by omega)]; exact h.c, qs, h1.same2 fun k _ hk => hb.block k hk, h2⟩
theorem WasAt.start {w w1 : World} (hb : Below w.heap.size w w1) : WasAt w w1.heap.size [] (.slice none 0 0) (w1.alloc (.cells #[.int .i64 2, .slice none 0 0] 39)) :=
  ⟨hb.alloc hb.size _, hb.size, heap_alloc_new _ _, [], ⟨World.ownsRow_nil _ _ _ _, by simp, fun i j _ hj => by simp at hj, by simp⟩, rfl⟩
theorem WasAt.swap {w : World} {g : Nat} {K : List Kep} {v : Value} {W : World} (h : WasAt w g K v W) {W' : World} (hb : Below W.heap.size W W') {v' : Value} {qs : List (Kep × Value)} (ho : OwnCache W' W.heap.size v' qs) :
    WasAt w g (qs.map (·.1)) v' ((W'.setCell ⟨g, 0, none⟩ (.int .i64 2)).setCell ⟨g, 1, none⟩ v') := by
  have hl := h.lt
  have h' := h.step hb
  have hoth : ∀ k, k ≠ g → ((W'.setCell ⟨g, 0, none⟩ (.int .i64 2)).setCell ⟨g, 1, none⟩ v').heap[k]? = W'.heap[k]? := fun k hk => by
    rw [heap_setCell_other _ _ _ _ (by simpa using hk), heap_setCell_other _ _ _ _ (by simpa using hk)]
  refine ⟨(h'.below.setCell (by simpa using h.g0) _).setCell (by simpa using h.g0) _, h.g0, ?_, qs, (ho.mono (show g + 1 ≤ _ by omega)).same fun k hk => hoth k (by omega), rfl⟩
  have h1 := block_setCell (cs := [.int .i64 2, v]) h'.c (j := 0) (.int .i64 2)
  have h2 := block_setCell (cs := [.int .i64 2, v]) h1 (j := 1) v'
  exact h2

def wasR (x : Int) : Rep := ⟨0, x, 0, 0, 0⟩
def wasK : Nat → List Kep
  | 0 => []
  | 1 => [⟨0, 0, [wasR 3]⟩]
  | 2 => [⟨0, 0, [wasR 3, wasR 5]⟩]
  | _ => [⟨0, 3, [wasR 4, wasR 5]⟩]
theorem wasK_right (n : Nat) : RightC 2 (wasK n) := by
  have hf : ∀ x : Int, 1 ≤ x → x ≤ 9 → (wasR x).fits := fun x h1 h2 => ⟨.inl ⟨rfl, rfl⟩, Int.le_refl _, by show (0 : Int) ≤ 16; decide, by show 0 ≤ x; omega, by show x ≤ 1000; omega, Int.le_refl _, by show (0 : Int) ≤ 1000; decide⟩
  have one : ∀ (gone a : Int) (l : List Int), 0 ≤ gone → gone ≤ 1000 → (((a :: l).map wasR).length : Int) ≤ 2 → (∀ x ∈ a :: l, 1 ≤ x ∧ x ≤ 9) → SortedX gone ((a :: l).map wasR) → Kep.right ⟨0, gone, (a :: l).map wasR⟩ 2 := fun gone a l h0 h1 h2 h3 h4 =>
    ⟨h0, h1, Int.le_refl _, by show (0 : Int) < 16; decide, h2, fun r hr => by obtain ⟨x, hx, rfl⟩ := List.mem_map.1 hr; exact ⟨hf x (h3 x hx).1 (h3 x hx).2, rfl⟩, (up_iff 0 gone _).2 h4⟩
  have all : ∀ k : Kep, k.right 2 → RightC 2 [k] := fun k hk => ⟨by decide, by decide, fun x hx => by rw [List.mem_singleton.1 hx]; exact hk, fun i j hij hj => by simp at hj; omega⟩
  match n with
  | 0 => exact ⟨by decide, by decide, by simp [wasK], fun i j hij hj => by simp [wasK] at hj⟩
  | 1 => exact all _ (one 0 3 [] (by decide) (by decide) (by decide) (by decide) ⟨by decide, trivial⟩)
  | 2 => exact all _ (one 0 3 [5] (by decide) (by decide) (by decide) (by decide) ⟨by decide, by decide, trivial⟩)
  | n + 3 => exact all _ (one 3 4 [5] (by decide) (by decide) (by decide) (by decide) ⟨by decide, by decide, trivial⟩)
theorem wasK_len (n : Nat) : (wasK n).length ≤ 1 := by
  match n with
  | 0 => decide
  | 1 => decide
  | 2 => decide
  | n + 3 => exact Nat.le_refl 1
theorem wasR_fits (x : Int) (h1 : 1 ≤ x) (h2 : x ≤ 9) : (wasR x).fits := ⟨.inl ⟨rfl, rfl⟩, Int.le_refl _, by show (0 : Int) ≤ 16; decide, by show 0 ≤ x; omega, by show x ≤ 1000; omega, Int.le_refl _, by show (0 : Int) ≤ 1000; decide⟩

/-- What Put leaves there. -/
def WasPut (w : World) (K : List Kep) (E : Int) (e : Ending) (w' : World) : Prop :=
  ∃ v' qs, e = .returned (.tuple #[.agg #[.int .i64 2, v'], .int .i64 E]) ∧ OwnCache w' w.heap.size v' qs ∧ qs.map (·.1) = K ∧ Below w.heap.size w w'
theorem was_put (n : Nat) (x : Int) (K : List Kep) (hn : n ≤ 2) (hx : 1 ≤ x) (hx9 : x ≤ 9) (hk : (look (wasK n) 0 x).2 = 0) (hK : putK 2 (wasR x) (wasK n) = K) {w : World} {g : Nat} {v : Value} {W : World} (h : WasAt w g (wasK n) v W) :
    Calls Try.prog 10 #[.agg #[.int .i64 2, v], .agg #[.int .i64 0, .int .i64 x, .int .i64 0, .int .i64 0, .int .i64 0, .bool false, .int .i64 0, .slice none 0 0, .slice none 0 0, .bool false, .int .i64 0]] W (WasPut W K 0) := by
  obtain ⟨qs, ho, hq⟩ := h.own
  have hr : RightC 2 (qs.map (·.1)) := by rw [hq]; exact wasK_right n
  have hl : qs.length ≤ 100 := by have := wasK_len n; rw [← hq, List.length_map] at this; omega
  refine (put10_good 2 v qs (wasR x) W ho.cacheAt hr hl (wasR_fits x hx hx9) (by show (0 : Int) < 16; decide) hx (by rw [hq]; exact hk)).mono ?_
  rintro e w' ⟨v', qs', h1, h2, h3, h4⟩
  exact ⟨v', qs', h1, h2, by rw [h3, hq, hK], h4⟩
theorem was_refused (n : Nat) (x : Int) (hx : 1 ≤ x) (hx9 : x ≤ 9) (hk : (look (wasK n) 0 x).2 ≠ 0) {w : World} {g : Nat} {v : Value} {W : World} (h : WasAt w g (wasK n) v W) :
    Calls Try.prog 10 #[.agg #[.int .i64 2, v], .agg #[.int .i64 0, .int .i64 x, .int .i64 0, .int .i64 0, .int .i64 0, .bool false, .int .i64 0, .slice none 0 0, .slice none 0 0, .bool false, .int .i64 0]] W (WasPut W (wasK n) 2) := by
  obtain ⟨qs, ho, hq⟩ := h.own
  have hr : RightC 2 (qs.map (·.1)) := by rw [hq]; exact wasK_right n
  have hl : qs.length ≤ 100 := by have := wasK_len n; rw [← hq, List.length_map] at this; omega
  refine (put10_bad 2 v qs (wasR x) W ho.cacheAt hr hl (wasR_fits x hx hx9) (fun _ _ => by rw [hq]; exact hk)).mono ?_
  rintro e w' ⟨v', qs', h1, h2, h3, h4⟩
  exact ⟨v', qs', h1, h2, by rw [h3, hq], h4⟩
theorem was_look (n : Nat) (x c : Int) (r : Rep) (hk : look (wasK n) 0 x = (r, c)) {w : World} {g : Nat} {v : Value} {W : World} (h : WasAt w g (wasK n) v W) :
    Calls Try.prog 11 #[.agg #[.int .i64 2, v], .int .i64 0, .int .i64 x] W fun e w' => e = .returned (.tuple #[.agg r.cs.toArray, .int .i64 c]) ∧ Below W.heap.size W w' := by
  obtain ⟨qs, ho, hq⟩ := h.own
  have hr : RightC 2 (qs.map (·.1)) := by rw [hq]; exact wasK_right n
  have hl : qs.length ≤ 1000 := by have := wasK_len n; rw [← hq, List.length_map] at this; omega
  refine (look11 2 0 x v qs W ho.cacheAt hr hl (Int.le_refl _) (by decide)).mono ?_
  rintro e w' ⟨h1, h2⟩
  rw [hq, hk] at h1
  exact ⟨h1, h2⟩
def wasL : List K31 := [⟨0, 3, 1⟩, ⟨0, 5, 2⟩, ⟨0, 4, 3⟩, ⟨0, 2, 4⟩, ⟨1, 1, 0⟩]
theorem wasL_count : (runK 2 wasL).2 = 4 := by rfl
end Go.Proofs.Ytihfikepfhcboaa
