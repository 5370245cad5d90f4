/- replies.copied: a cache in memory of its own. Conditions: each stands in its own theorem. -/
import Derived.Test.YtihfikepfhcboaaKept
import Derived.Test.YtihfikepfhcboaaRun
import Derived.Deep.RegionWith
namespace Go.Proofs.Ytihfikepfhcboaa
open Go.RowKit

/-- A client's answers, in a row of the call's own. -/
def OwnKep (w : World) (B : Nat) (p : Kep × Value) : Prop := w.ownsRow B 49 11 p.2 p.1.rs.length (p.1.rs.map Rep.cs).flatten
/-- No two of the rows lie in one block. -/
def Apart (ps : List (Kep × Value)) : Prop := ∀ i j (hi : i < j) (hj : j < ps.length), ps[i].2.ownBlock = none ∨ ps[i].2.ownBlock ≠ ps[j].2.ownBlock
/-- A cache of the call's own. -/
structure OwnCache (w : World) (B : Nat) (v : Value) (ps : List (Kep × Value)) : Prop where
  row : w.ownsRow B 106 3 v ps.length (ps.map krow).flatten
  each : ∀ p ∈ ps, OwnKep w B p
  apart : Apart ps
  off : ∀ p ∈ ps, p.2.ownBlock = none ∨ p.2.ownBlock ≠ v.ownBlock

theorem OwnKep.mono {w : World} {B B' : Nat} {p : Kep × Value} (h : OwnKep w B p) (hB : B' ≤ B) : OwnKep w B' p := by
  obtain ⟨h1, h2⟩ := h
  refine ⟨h1, ?_⟩
  rcases h2 with h2 | ⟨g, cap, cur, a1, a2, a3⟩
  · exact .inl h2
  · exact .inr ⟨g, cap, cur, a1, Nat.le_trans hB a2, a3⟩
theorem ownsRow_mono {w : World} {B B' : Nat} {e : TypeId} {sz : Nat} {v : Value} {n : Nat} {xs : List Value} (h : w.ownsRow B e sz v n xs) (hB : B' ≤ B) : w.ownsRow B' e sz v n xs := by
  obtain ⟨h1, h2⟩ := h
  refine ⟨h1, ?_⟩
  rcases h2 with h2 | ⟨g, cap, cur, a1, a2, a3⟩
  · exact .inl h2
  · exact .inr ⟨g, cap, cur, a1, Nat.le_trans hB a2, a3⟩
theorem ownsRow_same {w w' : World} {B : Nat} {e : TypeId} {sz : Nat} {v : Value} {n : Nat} {xs : List Value} (h : w.ownsRow B e sz v n xs) (hs : ∀ k, v.ownBlock = some k → w'.heap[k]? = w.heap[k]?) : w'.ownsRow B e sz v n xs := by
  obtain ⟨h1, h2⟩ := h
  refine ⟨h1, ?_⟩
  rcases h2 with h2 | ⟨g, cap, cur, rfl, a2, a3, a4⟩
  · exact .inl h2
  · exact .inr ⟨g, cap, cur, rfl, a2, by rw [hs g rfl]; exact a3, a4⟩
theorem ownsRow_below {w w' : World} {B C : Nat} {e : TypeId} {sz : Nat} {v : Value} {n : Nat} {xs : List Value} (h : w.ownsRow B e sz v n xs) (hb : Below C w w') (hC : w.heap.size ≤ C) : w'.ownsRow B e sz v n xs :=
  ownsRow_same h fun k hk => hb.block k (by have := (h.lt k hk).2; omega)

/-- The rows after the first clients have been cloned. -/
structure CopyInv (w : World) (win : Int) (ps qs : List (Kep × Value)) (g cap i : Nat) (W : World) : Prop where
  below : Below w.heap.size w W
  a : W.heap[w.heap.size]? = some (.cells #[.int .i64 win, .slice (some ⟨g, 0, none⟩) ps.length cap] 39 (0, 0))
  b : ∃ x y, W.heap[w.heap.size + 1]? = some (.cells #[x, y] 39 (0, 0))
  row : ∃ spare, W.heap[g]? = some (.cells (((qs ++ ps.drop i).map krow).flatten ++ spare).toArray 106 (0, 0)) ∧ ps.length * 3 + spare.length = cap * 3
  g0 : w.heap.size + 1 < g
  g1 : g < W.heap.size
  cap0 : ps.length ≤ cap
  cap1 : cap ≤ maxLen
  names : qs.map (·.1) = (ps.take i).map (·.1)
  each : ∀ p ∈ qs, OwnKep W (g + 1) p
  apart : Apart qs

theorem CopyInv.len {w : World} {win : Int} {ps qs : List (Kep × Value)} {g cap i : Nat} {W : World} (h : CopyInv w win ps qs g cap i W) (hi : i ≤ ps.length) : qs.length = i := by
  have := congrArg List.length h.names
  simp only [List.length_map, List.length_take] at this
  omega
theorem CopyInv.step {w : World} {win : Int} {ps qs : List (Kep × Value)} {g cap i : Nat} {W W' : World} (h : CopyInv w win ps qs g cap i W) (hb : Below W.heap.size W W') : CopyInv w win ps qs g cap i W' := by
  have g0 := h.g0
  have g1 := h.g1
  refine ⟨h.below.trans (hb.mono (by omega)), by rw [hb.block _ (by omega)]; exact h.a, by rw [hb.block _ (by omega)]; exact h.b, by rw [hb.block _ (by omega)]; exact h.row, h.g0, Nat.lt_of_lt_of_le h.g1 hb.size, h.cap0, h.cap1, h.names, fun p hp => ownsRow_below (h.each p hp) hb (Nat.le_refl _), h.apart⟩

theorem rows_set (qs rest : List (Kep × Value)) (p : Kep × Value) (u : Value) (spare : List Value) :
    (((qs ++ p :: rest).map krow).flatten ++ spare).set (qs.length * 3 + 2) u = ((qs ++ (p.1, u) :: rest).map krow).flatten ++ spare := by
  have hl : (qs.map krow).flatten.length = qs.length * 3 := by rw [flatten_length (krow_sz qs), List.length_map]
  simp only [List.map_append, List.map_cons, List.flatten_append, List.flatten_cons, List.append_assoc]
  rw [List.set_append, if_neg (by omega), hl, Nat.add_sub_cancel_left]
  rfl

theorem block_setCell {w : World} {g j : Nat} {cs : List Value} {t : TypeId} (h : w.heap[g]? = some (.cells cs.toArray t (0, 0))) (v : Value) : (w.setCell ⟨g, j, none⟩ v).heap[g]? = some (.cells (cs.set j v).toArray t (0, 0)) := by
  have := heap_setCell_same w g j cs.toArray t v h
  simpa using this

/-- A client's answers have been cloned, and the clone is stored. -/
theorem CopyInv.put {w : World} {win : Int} {ps qs : List (Kep × Value)} {g cap i : Nat} {W W1 : World} (h : CopyInv w win ps qs g cap i W) (hi : i < ps.length) (hb : Below W.heap.size W W1) {u : Value}
    (hu : W1.ownsRow W.heap.size 49 11 u ps[i].1.rs.length (ps[i].1.rs.map Rep.cs).flatten) : CopyInv w win ps (qs ++ [(ps[i].1, u)]) g cap (i + 1) (W1.setCell ⟨g, i * 3 + 2, none⟩ u) := by
  have h1 := h.step hb
  have g0 := h.g0
  have g1 := h.g1
  have hl := h.len (Nat.le_of_lt hi)
  have hoth : ∀ k, k ≠ g → (W1.setCell ⟨g, i * 3 + 2, none⟩ u).heap[k]? = W1.heap[k]? := fun k hk => heap_setCell_other W1 _ k u hk
  have hsz : (W1.setCell ⟨g, i * 3 + 2, none⟩ u).heap.size = W1.heap.size := by simp [World.setCell]
  refine ⟨h1.below.setCell (by simp; omega) _, by rw [hoth _ (by omega)]; exact h1.a, by rw [hoth _ (by omega)]; exact h1.b, ?_, h.g0, by rw [hsz]; exact h1.g1, h.cap0, h.cap1, ?_, ?_, ?_⟩
  · obtain ⟨spare, hr, hs⟩ := h1.row
    refine ⟨spare, ?_, hs⟩
    have e : ps.drop i = ps[i] :: ps.drop (i + 1) := List.drop_eq_getElem_cons hi
    rw [e] at hr
    have := block_setCell hr (j := i * 3 + 2) u
    have e2 := rows_set qs (ps.drop (i + 1)) ps[i] u spare
    rw [hl] at e2
    rw [e2] at this
    simpa [List.append_assoc] using this
  · rw [List.map_append, h.names, ← List.take_append_getElem hi, List.map_append]; rfl
  · intro p hp
    rcases List.mem_append.1 hp with hp | hp
    · have := h1.each p hp
      exact ownsRow_same this fun k hk => hoth k (by have := (this.lt k hk).1; omega)
    · simp only [List.mem_singleton] at hp
      subst hp
      have := ownsRow_mono hu (show g + 1 ≤ W.heap.size by omega)
      exact ownsRow_same this fun k hk => hoth k (by have := (this.lt k hk).1; omega)
  · intro a b hab hb'
    simp only [List.length_append, List.length_singleton] at hb'
    by_cases hbl : b < qs.length
    · have := h.apart a b hab hbl
      rw [List.getElem_append_left hbl, List.getElem_append_left (by omega)]
      exact this
    · have hbe : b = qs.length := by omega
      subst hbe
      rw [List.getElem_append_left hab, List.getElem_append_right (Nat.le_refl _)]
      simp only [Nat.sub_self, List.getElem_singleton]
      have e1 := h.each _ (List.getElem_mem hab)
      cases hq : qs[a].2.ownBlock with
      | none => exact .inl rfl
      | some k =>
        refine .inr fun he => ?_
        have k1 := (e1.lt k hq).2
        have k2 := (hu.lt k he.symm).1
        omega
end Go.Proofs.Ytihfikepfhcboaa
