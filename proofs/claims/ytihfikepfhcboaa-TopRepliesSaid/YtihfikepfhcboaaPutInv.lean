/- What replies.Put computes, as plain functions of the cache's data, and what its own memory holds on the way. Conditions: each stands in its own theorem. -/
import Derived.Test.YtihfikepfhcboaaCopied2
import Derived.Test.YtihfikepfhcboaaIns
import Derived.Test.YtihfikepfhcboaaDel
import Derived.Test.YtihfikepfhcboaaLook2
namespace Go.Proofs.Ytihfikepfhcboaa
open Go.RowKit

/-- An answer put among others, by rising numbers. -/
def insertRep (r : Rep) : List Rep → List Rep
  | [] => [r]
  | a :: l => if a.xid < r.xid then a :: insertRep r l else r :: a :: l
/-- A client's answers with one more; if they are too many, the least is let go. -/
def Kep.add (win : Int) (k : Kep) (r : Rep) : Kep :=
  if ((insertRep r k.rs).length : Int) > win then (match insertRep r k.rs with | a :: l => ⟨k.cl, a.xid, l⟩ | [] => k) else ⟨k.cl, k.gone, insertRep r k.rs⟩
/-- The cache with an answer put. -/
def putK (win : Int) (r : Rep) : List Kep → List Kep
  | [] => [Kep.add win ⟨r.cl, 0, []⟩ r]
  | k :: l => if k.cl < r.cl then k :: putK win r l else if k.cl = r.cl then Kep.add win k r :: l else Kep.add win ⟨r.cl, 0, []⟩ r :: k :: l

theorem insertRep_place (r : Rep) (rs : List Rep) (x : Nat) (hp : Parted (keyAt rs Rep.xid) r.xid rs.length x x) : insertRep r rs = rs.take x ++ r :: rs.drop x := by
  induction rs generalizing x with
  | nil =>
    have : x = 0 := by have := hp.2.1; simpa using this
    subst this; rfl
  | cons a l ih =>
    obtain ⟨h1, h2, h3, h4⟩ := hp
    cases x with
    | zero =>
      have := h4 0 (Nat.le_refl _) (by simp)
      simp only [keyAt, List.getElem?_cons_zero] at this
      rw [insertRep, if_neg (by omega)]; rfl
    | succ x =>
      have := h3 0 (by omega)
      simp only [keyAt, List.getElem?_cons_zero] at this
      rw [insertRep, if_pos this, ih x ⟨Nat.le_refl _, by simpa using h2, fun q hq => by simpa [keyAt] using h3 (q + 1) (by omega), fun q hq hn => by simpa [keyAt] using h4 (q + 1) (by omega) (by simpa using hn)⟩]
      rfl

theorem putK_found (win : Int) (r : Rep) (ks : List Kep) (p : Nat) (hp : p < ks.length) (hl : ∀ q (h : q < p), ks[q].cl < r.cl) (he : ks[p].cl = r.cl) : putK win r ks = ks.set p (Kep.add win ks[p] r) := by
  induction ks generalizing p with
  | nil => simp at hp
  | cons k l ih =>
    cases p with
    | zero =>
      simp only [List.getElem_cons_zero] at he
      rw [putK, if_neg (by omega), if_pos he]; rfl
    | succ p =>
      have h0 := hl 0 (by omega)
      simp only [List.getElem_cons_zero] at h0
      rw [putK, if_pos h0, ih p (by simpa using hp) (fun q h => by simpa using hl (q + 1) (by omega)) (by simpa using he)]
      rfl
theorem putK_new (win : Int) (r : Rep) (ks : List Kep) (p : Nat) (hp : p ≤ ks.length) (hl : ∀ q (h : q < p), ks[q].cl < r.cl) (hg : ∀ q (h : q < ks.length), p ≤ q → r.cl < ks[q].cl) :
    putK win r ks = ks.take p ++ Kep.add win ⟨r.cl, 0, []⟩ r :: ks.drop p := by
  induction ks generalizing p with
  | nil =>
    have : p = 0 := by simpa using hp
    subst this; rfl
  | cons k l ih =>
    cases p with
    | zero =>
      have h0 := hg 0 (by simp) (Nat.le_refl _)
      simp only [List.getElem_cons_zero] at h0
      rw [putK, if_neg (by omega), if_neg (by omega)]; rfl
    | succ p =>
      have h0 := hl 0 (by omega)
      simp only [List.getElem_cons_zero] at h0
      rw [putK, if_pos h0, ih p (by simpa using hp) (fun q h => by simpa using hl (q + 1) (by omega)) (fun q h hq => by have := hg (q + 1) (by simpa using h) (by omega); rwa [List.getElem_cons_succ] at this)]
      rfl

theorem OwnCache.cacheAt {W : World} {B : Nat} {v : Value} {qs : List (Kep × Value)} (h : OwnCache W B v qs) : CacheAt W v qs :=
  ⟨SlOf.owns h.row, fun p hp => SlOf.owns (h.each p hp)⟩

/-- The rows of a cache, in a block that is known whole. -/
theorem OwnCache.block {W : World} {B g cap : Nat} {n : Nat} {qs : List (Kep × Value)} (h : OwnCache W B (.slice (some ⟨g, 0, none⟩) n cap) qs) (hn : n = qs.length) :
    ∃ spare, W.heap[g]? = some (.cells ((qs.map krow).flatten ++ spare).toArray 106 (0, 0)) ∧ qs.length * 3 + spare.length = cap * 3 ∧ B ≤ g ∧ qs.length ≤ cap ∧ cap ≤ maxLen := by
  rcases h.row.2 with ⟨h1, _⟩ | ⟨g', cap', cur, h1, hB, hg, hnc, hcm, hcs, htake⟩
  · cases h1
  · injection h1 with e1 e2 e3
    cases e1
    subst e3
    refine ⟨cur.toList.drop (qs.length * 3), ?_, ?_, hB, hnc, hcm⟩
    · rw [hg]
      congr 2
      apply Array.toList_inj.1
      rw [← htake, List.take_append_drop]
    · simp only [List.length_drop, Array.length_toList, hcs]
      have := Nat.mul_le_mul_right 3 hnc
      omega

theorem flat_set (qs : List (Kep × Value)) (p : Nat) (hp : p < qs.length) (k : Kep) (u : Value) (spare : List Value) (hc : k.cl = qs[p].1.cl) (hg : k.gone = qs[p].1.gone) :
    ((qs.map krow).flatten ++ spare).set (p * 3 + 2) u = ((qs.set p (k, u)).map krow).flatten ++ spare := by
  have e : qs = qs.take p ++ qs[p] :: qs.drop (p + 1) := by rw [← List.drop_eq_getElem_cons hp, List.take_append_drop]
  have hl : (qs.take p).length = p := by rw [List.length_take]; omega
  have h1 := rows_set (qs.take p) (qs.drop (p + 1)) qs[p] u spare
  rw [← e, hl] at h1
  rw [h1]
  have e2 : qs.set p (k, u) = qs.take p ++ (k, u) :: qs.drop (p + 1) := List.set_eq_take_append_cons_drop ▸ by rw [if_pos hp]
  rw [e2]
  simp only [List.map_append, List.map_cons, krow, hc, hg]
theorem flat_set1 (qs : List (Kep × Value)) (p : Nat) (hp : p < qs.length) (x : Int) (spare : List Value) :
    ((qs.map krow).flatten ++ spare).set (p * 3 + 1) (.int .i64 x) = ((qs.set p (⟨qs[p].1.cl, x, qs[p].1.rs⟩, qs[p].2)).map krow).flatten ++ spare := by
  have e : qs = qs.take p ++ qs[p] :: qs.drop (p + 1) := by rw [← List.drop_eq_getElem_cons hp, List.take_append_drop]
  have hl : (qs.take p).length = p := by rw [List.length_take]; omega
  have hlf : ((qs.take p).map krow).flatten.length = p * 3 := by rw [flatten_length (krow_sz _), List.length_map, hl]
  have e2 : qs.set p (⟨qs[p].1.cl, x, qs[p].1.rs⟩, qs[p].2) = qs.take p ++ (⟨qs[p].1.cl, x, qs[p].1.rs⟩, qs[p].2) :: qs.drop (p + 1) := List.set_eq_take_append_cons_drop ▸ by rw [if_pos hp]
  rw [e2]
  conv => lhs; rw [e]
  simp only [List.map_append, List.map_cons, List.flatten_append, List.flatten_cons, List.append_assoc]
  rw [List.set_append, if_neg (by omega), hlf, Nat.add_sub_cancel_left]
  rfl

theorem getElem_set_ne' {α : Type} {l : List α} {p i : Nat} {x : α} (h : i < (l.set p x).length) (hne : p ≠ i) : (l.set p x)[i] = l[i]'(by simpa using h) := by
  rw [List.getElem_set]; rw [if_neg hne]

/-- One client's row has been put in another's place: by the row's own block alone, or by a new one. -/
theorem OwnCache.update {W W1 : World} {B g cap p : Nat} {qs : List (Kep × Value)} (h : OwnCache W B (.slice (some ⟨g, 0, none⟩) qs.length cap) qs) (hp : p < qs.length)
    {k : Kep} {u : Value} (hc : k.cl = qs[p].1.cl) (hg : k.gone = qs[p].1.gone) (hsz : W.heap.size ≤ W1.heap.size)
    (hoth : ∀ j, j < W.heap.size → some j ≠ qs[p].2.ownBlock → W1.heap[j]? = W.heap[j]?) (hu : W1.ownsRow B 49 11 u k.rs.length (k.rs.map Rep.cs).flatten)
    (hblk : u.ownBlock = qs[p].2.ownBlock ∨ ∃ j, u.ownBlock = some j ∧ W.heap.size ≤ j) :
    OwnCache (W1.setCell ⟨g, p * 3 + 2, none⟩ u) B (.slice (some ⟨g, 0, none⟩) (qs.set p (k, u)).length cap) (qs.set p (k, u)) := by
  obtain ⟨spare, hr, hs, hBg, hnc, hcm⟩ := h.block rfl
  have hgw : g < W.heap.size := (Array.getElem?_eq_some_iff.1 hr).1
  have hpm := List.getElem_mem hp
  have hgp : some g ≠ qs[p].2.ownBlock := by
    intro he
    rcases h.off _ hpm with h1 | h1
    · rw [h1] at he; cases he
    · exact h1 he.symm
  have hug : some g ≠ u.ownBlock := by
    intro he
    rcases hblk with h1 | ⟨j, h1, h2⟩
    · rw [h1] at he; exact hgp he
    · rw [h1] at he; cases he; omega
  have hset : ∀ j, j ≠ g → (W1.setCell ⟨g, p * 3 + 2, none⟩ u).heap[j]? = W1.heap[j]? := fun j hj => heap_setCell_other W1 _ j u hj
  have hkeep : ∀ q (hq : q < qs.length), p ≠ q → ∀ j, qs[q].2.ownBlock = some j → j < W.heap.size ∧ j ≠ g ∧ some j ≠ qs[p].2.ownBlock := fun q hq hpq j hj => by
    have hm := List.getElem_mem hq
    refine ⟨((h.each _ hm).lt j hj).2, fun e => ?_, fun e => ?_⟩
    · rcases h.off _ hm with h1 | h1
      · rw [h1] at hj; cases hj
      · rw [hj, e] at h1; exact h1 rfl
    · rcases Nat.lt_or_gt_of_ne hpq with h1 | h1
      · rcases h.apart p q h1 hq with h2 | h2
        · rw [h2] at e; cases e
        · rw [← e, hj] at h2; exact h2 rfl
      · rcases h.apart q p h1 hp with h2 | h2
        · rw [h2] at hj; cases hj
        · rw [← e, hj] at h2; exact h2 rfl
  have hll : ((qs.set p (k, u)).map krow).flatten.length = qs.length * 3 := by rw [flatten_length (krow_sz _), List.length_map, List.length_set]
  have hg1 : (W1.setCell ⟨g, p * 3 + 2, none⟩ u).heap[g]? = some (.cells (((qs.set p (k, u)).map krow).flatten ++ spare).toArray 106 (0, 0)) := by
    have := block_setCell ((hoth g hgw hgp).trans hr) (j := p * 3 + 2) u
    rwa [flat_set qs p hp k u spare hc hg] at this
  refine ⟨⟨by rw [hll, List.length_set], .inr ⟨g, cap, _, by rw [List.length_set], hBg, hg1, by rw [List.length_set]; exact hnc, hcm, by rw [List.size_toArray, List.length_append, hll, hs], by rw [List.length_set]; exact List.take_left' hll⟩⟩, ?_, ?_, ?_⟩
  · intro x hx
    obtain ⟨q, hq, rfl⟩ := List.getElem_of_mem hx
    have hq' : q < qs.length := by simpa using hq
    by_cases e : p = q
    · subst e
      rw [List.getElem_set_self]
      exact ownsRow_same hu fun j hj => hset j fun e => hug (by rw [hj, e])
    · rw [getElem_set_ne' hq e]
      have hk := hkeep q hq' e
      exact ownsRow_same (h.each _ (List.getElem_mem hq')) fun j hj => by
        obtain ⟨h1, h2, h3⟩ := hk j hj
        rw [hset j h2, hoth j h1 h3]
  · intro i j hij hj
    have hj' : j < qs.length := by simpa using hj
    have hi' : i < qs.length := by omega
    by_cases ei : p = i
    · subst ei
      rw [List.getElem_set_self, getElem_set_ne' hj (by omega)]
      cases hu2 : u.ownBlock with
      | none => exact .inl rfl
      | some m =>
        right
        intro e
        obtain ⟨h1, h2, h3⟩ := hkeep j hj' (by omega) m e.symm
        rcases hblk with h4 | ⟨m', h4, h5⟩
        · rw [hu2] at h4; exact h3 h4
        · rw [hu2] at h4; cases h4; omega
    · by_cases ej : p = j
      · subst ej
        rw [getElem_set_ne' (by simpa using hi') ei, List.getElem_set_self]
        cases hq2 : qs[i].2.ownBlock with
        | none => exact .inl rfl
        | some m =>
          right
          intro e
          obtain ⟨h1, h2, h3⟩ := hkeep i hi' ei m hq2
          rcases hblk with h4 | ⟨m', h4, h5⟩
          · rw [h4] at e; exact h3 e
          · rw [h4] at e; cases e; omega
      · rw [getElem_set_ne' (by simpa using hi') ei, getElem_set_ne' hj ej]
        exact h.apart i j hij hj'
  · intro x hx
    obtain ⟨q, hq, rfl⟩ := List.getElem_of_mem hx
    have hq' : q < qs.length := by simpa using hq
    by_cases e : p = q
    · subst e
      rw [List.getElem_set_self]
      exact .inr fun e => hug e.symm
    · rw [getElem_set_ne' hq e]
      exact h.off _ (List.getElem_mem hq')

/-- One client's greatest number that was let go has been set. -/
theorem OwnCache.setGone {W : World} {B g cap p : Nat} {qs : List (Kep × Value)} (h : OwnCache W B (.slice (some ⟨g, 0, none⟩) qs.length cap) qs) (hp : p < qs.length) (x : Int) :
    OwnCache (W.setCell ⟨g, p * 3 + 1, none⟩ (.int .i64 x)) B (.slice (some ⟨g, 0, none⟩) (qs.set p (⟨qs[p].1.cl, x, qs[p].1.rs⟩, qs[p].2)).length cap) (qs.set p (⟨qs[p].1.cl, x, qs[p].1.rs⟩, qs[p].2)) := by
  obtain ⟨spare, hr, hs, hBg, hnc, hcm⟩ := h.block rfl
  have hset : ∀ j, j ≠ g → (W.setCell ⟨g, p * 3 + 1, none⟩ (.int .i64 x)).heap[j]? = W.heap[j]? := fun j hj => heap_setCell_other W _ j _ hj
  have hll : ((qs.set p (⟨qs[p].1.cl, x, qs[p].1.rs⟩, qs[p].2)).map krow).flatten.length = qs.length * 3 := by rw [flatten_length (krow_sz _), List.length_map, List.length_set]
  have hg1 := block_setCell hr (j := p * 3 + 1) (.int .i64 x)
  rw [flat_set1 qs p hp x spare] at hg1
  have hsame : ∀ q (hq : q < (qs.set p (⟨qs[p].1.cl, x, qs[p].1.rs⟩, qs[p].2)).length), (qs.set p (⟨qs[p].1.cl, x, qs[p].1.rs⟩, qs[p].2))[q].2 = (qs[q]'(by simpa using hq)).2 ∧ (qs.set p (⟨qs[p].1.cl, x, qs[p].1.rs⟩, qs[p].2))[q].1.rs = (qs[q]'(by simpa using hq)).1.rs := fun q hq => by
    by_cases e : p = q
    · subst e; rw [List.getElem_set_self]; exact ⟨rfl, rfl⟩
    · rw [getElem_set_ne' hq e]; exact ⟨rfl, rfl⟩
  refine ⟨⟨by rw [hll, List.length_set], .inr ⟨g, cap, _, by rw [List.length_set], hBg, hg1, by rw [List.length_set]; exact hnc, hcm, by rw [List.size_toArray, List.length_append, hll, hs], by rw [List.length_set]; exact List.take_left' hll⟩⟩, ?_, ?_, ?_⟩
  · intro y hy
    obtain ⟨q, hq, rfl⟩ := List.getElem_of_mem hy
    have hq' : q < qs.length := by simpa using hq
    obtain ⟨e1, e2⟩ := hsame q hq
    unfold OwnKep
    rw [e1, e2]
    exact ownsRow_same (h.each _ (List.getElem_mem hq')) fun j hj => hset j fun e => by
      rcases h.off _ (List.getElem_mem hq') with h1 | h1
      · rw [h1] at hj; cases hj
      · rw [hj, e] at h1; exact h1 rfl
  · intro i j hij hj
    rw [(hsame i (by omega)).1, (hsame j hj).1]
    exact h.apart i j hij (by simpa using hj)
  · intro y hy
    obtain ⟨q, hq, rfl⟩ := List.getElem_of_mem hy
    have hq' : q < qs.length := by simpa using hq
    rw [(hsame q hq).1]
    exact h.off _ (List.getElem_mem hq')

theorem OwnCache.off_write {W W' : World} {B M : Nat} {v : Value} {qs : List (Kep × Value)} (h : OwnCache W B v qs) (hv : v.ownBlock ≠ some M) (hq : ∀ q ∈ qs, q.2.ownBlock ≠ some M) (hs : ∀ k, k ≠ M → W'.heap[k]? = W.heap[k]?) : OwnCache W' B v qs :=
  ⟨ownsRow_same h.row fun k hk => hs k fun e => hv (by rw [hk, e]), fun p hp => ownsRow_same (h.each p hp) fun k hk => hs k fun e => hq p hp (by rw [hk, e]), h.apart, h.off⟩

theorem flat_take (qs : List (Kep × Value)) (p : Nat) (hp : p ≤ qs.length) : ((qs.map krow).flatten).take (p * 3) = ((qs.take p).map krow).flatten := by
  have hl : ((qs.take p).map krow).flatten.length = p * 3 := by rw [flatten_length (krow_sz _), List.length_map, List.length_take]; congr 1; omega
  conv => lhs; rw [← List.take_append_drop p qs]
  rw [List.map_append, List.flatten_append]
  exact List.take_left' hl
theorem flat_drop (qs : List (Kep × Value)) (p : Nat) (hp : p ≤ qs.length) : ((qs.map krow).flatten).drop (p * 3) = ((qs.drop p).map krow).flatten := by
  have hl : ((qs.take p).map krow).flatten.length = p * 3 := by rw [flatten_length (krow_sz _), List.length_map, List.length_take]; congr 1; omega
  conv => lhs; rw [← List.take_append_drop p qs]
  rw [List.map_append, List.flatten_append]
  exact List.drop_left' hl

theorem apart_iff {ps : List (Kep × Value)} : Apart ps ↔ ps.Pairwise (fun p q => p.2.ownBlock = none ∨ p.2.ownBlock ≠ q.2.ownBlock) := by
  rw [List.pairwise_iff_getElem]
  exact ⟨fun h i j hi hj hij => h i j hij hj, fun h i j hij hj => h i j (by omega) hj hij⟩

theorem OwnCache.insert {W W1 : World} {B p : Nat} {s u : Value} {qs : List (Kep × Value)} (h : OwnCache W B s qs) (hp : p ≤ qs.length) (cl : Int)
    (hu : W1.ownsRow B 106 3 u (qs.length + 1) (((qs.map krow).flatten).take (p * 3) ++ ([.int .i64 cl, .int .i64 0, .slice none 0 0] ++ ((qs.map krow).flatten).drop (p * 3))))
    (hgr : W.grownBy W1 s.ownBlock) (hblk : u.ownBlock = s.ownBlock ∨ u.ownBlock = some W.heap.size) :
    OwnCache W1 B u (qs.take p ++ (⟨cl, 0, []⟩, .slice none 0 0) :: qs.drop p) := by
  have hlen : (qs.take p ++ ((⟨cl, 0, []⟩ : Kep), Value.slice none 0 0) :: qs.drop p).length = qs.length + 1 := by simp only [List.length_append, List.length_take, List.length_cons, List.length_drop]; omega
  have hflat : ((qs.take p ++ ((⟨cl, 0, []⟩ : Kep), Value.slice none 0 0) :: qs.drop p).map krow).flatten = ((qs.map krow).flatten).take (p * 3) ++ ([.int .i64 cl, .int .i64 0, .slice none 0 0] ++ ((qs.map krow).flatten).drop (p * 3)) := by
    rw [flat_take qs p hp, flat_drop qs p hp]
    simp only [List.map_append, List.map_cons, List.flatten_append, List.flatten_cons, krow]
  have hmem : ∀ q, q ∈ qs.take p ++ ((⟨cl, 0, []⟩ : Kep), Value.slice none 0 0) :: qs.drop p → q = (⟨cl, 0, []⟩, .slice none 0 0) ∨ q ∈ qs := fun q hq => by
    rcases List.mem_append.1 hq with h1 | h1
    · exact .inr (List.mem_of_mem_take h1)
    · rcases List.mem_cons.1 h1 with h2 | h2
      · exact .inl h2
      · exact .inr (List.mem_of_mem_drop h2)
  have hold : ∀ q ∈ qs, OwnKep W1 B q := fun q hq => ownsRow_same (h.each q hq) fun k hk => hgr.block k ((h.each q hq).lt k hk).2 (by
    rcases h.off q hq with h1 | h1
    · rw [h1] at hk; cases hk
    · rw [hk] at h1; exact h1)
  refine ⟨by rw [hlen, hflat]; exact hu, fun q hq => ?_, ?_, fun q hq => ?_⟩
  · rcases hmem q hq with rfl | h1
    · exact World.ownsRow_nil _ _ _ _
    · exact hold q h1
  · rw [apart_iff]
    have ha := apart_iff.1 h.apart
    rw [← List.take_append_drop p qs, List.pairwise_append] at ha
    rw [List.pairwise_append]
    refine ⟨ha.1, List.pairwise_cons.2 ⟨fun q _ => .inl rfl, ha.2.1⟩, fun x hx y hy => ?_⟩
    rcases List.mem_cons.1 hy with rfl | h2
    · cases hx2 : x.2.ownBlock with
      | none => exact .inl rfl
      | some k => exact .inr (by simp [Value.ownBlock])
    · exact ha.2.2 x hx y h2
  · rcases hmem q hq with rfl | h1
    · exact .inl rfl
    · cases hq2 : q.2.ownBlock with
      | none => exact .inl rfl
      | some k =>
        refine .inr fun e => ?_
        rcases hblk with h2 | h2
        · rw [h2] at e
          rcases h.off q h1 with h3 | h3
          · rw [h3] at hq2; cases hq2
          · rw [hq2] at h3; exact h3 e
        · rw [h2] at e
          cases e
          have := ((h.each q h1).lt _ hq2).2
          omega
end Go.Proofs.Ytihfikepfhcboaa
