/- replies.Put where it keeps an answer. Conditions: each stands in its own theorem. -/
import Derived.Test.YtihfikepfhcboaaPut
import Derived.Deep.DeepCutAuto
namespace Go.Proofs.Ytihfikepfhcboaa
open Go.RowKit

/-- Put's memory, behind the search for the client: its variables, the copy, the copy's rows. -/
structure PutMid (w : World) (win : Int) (v : Value) (r : Rep) (M g cap : Nat) (qs : List (Kep × Value)) (W : World) : Prop where
  vars : PutVars w win v r W
  own : OwnCache W (w.heap.size + 3) (.slice (some ⟨g, 0, none⟩) qs.length cap) qs
  out : W.heap[M]? = some (.cells #[.int .i64 win, .slice (some ⟨g, 0, none⟩) qs.length cap] 39 (0, 0))
  m0 : w.heap.size + 2 < M
  mg : M ≠ g
  mq : ∀ q ∈ qs, q.2.ownBlock ≠ some M
theorem PutMid.step {w : World} {win : Int} {v : Value} {r : Rep} {M g cap : Nat} {qs : List (Kep × Value)} {W W' : World} (h : PutMid w win v r M g cap qs W) (hb : Below W.heap.size W W') : PutMid w win v r M g cap qs W' :=
  ⟨h.vars.step hb, h.own.same2 fun k _ hk => hb.block k hk, by rw [hb.block M (Array.getElem?_eq_some_iff.1 h.out).1]; exact h.out, h.m0, h.mg, h.mq⟩

theorem PutVars.keep {w : World} {win : Int} {v : Value} {r : Rep} {W W' : World} (h : PutVars w win v r W) (hs : ∀ k, k < w.heap.size + 3 → W'.heap[k]? = W.heap[k]?) (hb : Below w.heap.size W W') : PutVars w win v r W' :=
  ⟨by rw [hs _ (by omega)]; exact h.a, by rw [hs _ (by omega)]; exact h.b, by rw [hs _ (by omega)]; exact h.c, h.below.trans hb, Nat.lt_of_lt_of_le h.lt hb.size⟩

/-- Put has kept an answer. -/
def Kept (w : World) (win : Int) (ks : List Kep) (e : Ending) (w' : World) : Prop :=
  ∃ v' qs, e = .returned (.tuple #[.agg #[.int .i64 win, v'], .int .i64 0]) ∧ OwnCache w' w.heap.size v' qs ∧ qs.map (·.1) = ks ∧ Below w.heap.size w w'

/-- What Put's memory says of the client's place: the client is there, with answers that are right, and what putK makes of it. -/
def Placed (w : World) (win : Int) (v : Value) (r : Rep) (M : Nat) (ks : List Kep) (p : Nat) (W : World) : Prop :=
  ∃ (g cap : Nat) (qs : List (Kep × Value)) (hp : p < qs.length), PutMid w win v r M g cap qs W ∧ qs[p].1.right win ∧ qs.length ≤ 101 ∧ putK win r ks = (qs.map (·.1)).set p (Kep.add win qs[p].1 r)

theorem Placed.found {w : World} {win : Int} {v : Value} {r : Rep} {M : Nat} {ps qs : List (Kep × Value)} {a' : Option Addr} {c' p : Nat} {W : World}
    (hv : PutVars w win v r W) (hO : OwnCache W (w.heap.size + 3) (.slice a' qs.length c') qs) (hM : W.heap[M]? = some (.cells #[.int .i64 win, .slice a' qs.length c'] 39 (0, 0))) (hm0 : w.heap.size + 2 < M)
    (hlt : ∀ k, (Value.slice a' qs.length c').ownBlock = some k → k < M) (hltq : ∀ q ∈ qs, ∀ k, q.2.ownBlock = some k → k < M) (hqs : qs.map (·.1) = ps.map (·.1)) (hr : RightC win (ps.map (·.1))) (hn : ps.length ≤ 100)
    (hp : p < qs.length) (hkey : keyAt (qs.map (·.1)) Kep.cl p = r.cl) : Placed w win v r M (ps.map (·.1)) p W := by
  have hlen : qs.length = ps.length := by have := congrArg List.length hqs; simpa using this
  have hp' : p < (qs.map (·.1)).length := by simpa using hp
  rw [keyAt_at hp', List.getElem_map] at hkey
  obtain ⟨g, cap2, cur, he, _⟩ := owns_some hO.row (by omega)
  injection he with e1 e2 e3
  subst e1 e3
  have hr2 : RightC win (qs.map (·.1)) := by rw [hqs]; exact hr
  refine ⟨g, c', qs, hp, ⟨hv, hO, hM, hm0, fun e => by have := hlt g rfl; omega, fun q hq e => by have := hltq q hq _ e; omega⟩, hr2.each _ (List.mem_map.2 ⟨_, List.getElem_mem hp, rfl⟩), by omega, ?_⟩
  rw [← hqs]
  have := putK_found win r (qs.map (·.1)) p hp' (fun q hq => by
    have h1 := hr2.up q p hq hp'
    have e5 : ((qs.map (fun x : Kep × Value => x.1))[p]'hp').cl = r.cl := by rw [List.getElem_map]; exact hkey
    rw [e5] at h1
    exact h1) (by rw [List.getElem_map]; exact hkey)
  rw [this, List.getElem_map]

theorem Placed.fresh {w : World} {win : Int} {v : Value} {r : Rep} {M : Nat} {ps qs : List (Kep × Value)} {s : Value} {p : Nat} {W1 W W2 : World} {u : Value}
    (hv : PutVars w win v r W2) (hO : OwnCache W (w.heap.size + 3) s qs) (hM : W2.heap[M]? = some (.cells #[.int .i64 win, u] 39 (0, 0))) (hm0 : w.heap.size + 2 < M) (hMw : M < W.heap.size)
    (hlt : ∀ k, s.ownBlock = some k → k < M) (hltq : ∀ q ∈ qs, ∀ k, q.2.ownBlock = some k → k < M) (hqs : qs.map (·.1) = ps.map (·.1)) (hr : RightC win (ps.map (·.1))) (hn : ps.length ≤ 100) (hcl0 : 0 ≤ r.cl) (hcl : r.cl < 16)
    (hpp : Parted (keyAt (qs.map (·.1)) Kep.cl) r.cl qs.length p p) (hff : ¬ (p < qs.length ∧ keyAt (qs.map (·.1)) Kep.cl p = r.cl))
    (hu : W1.ownsRow (w.heap.size + 3) 106 3 u (qs.length + 1) (((qs.map krow).flatten).take (p * 3) ++ ([.int .i64 r.cl, .int .i64 0, .slice none 0 0] ++ ((qs.map krow).flatten).drop (p * 3))))
    (hgr : W.grownBy W1 s.ownBlock) (hblk : u.ownBlock = s.ownBlock ∨ u.ownBlock = some W.heap.size) (hW2 : ∀ k, k ≠ M → W2.heap[k]? = W1.heap[k]?) : Placed w win v r M (ps.map (·.1)) p W2 := by
  have hlen : qs.length = ps.length := by have := congrArg List.length hqs; simpa using this
  have hp : p ≤ qs.length := hpp.2.1
  have hO1 := hO.insert hp r.cl hu hgr hblk
  have hllen : (qs.take p ++ ((⟨r.cl, 0, []⟩ : Kep), Value.slice none 0 0) :: qs.drop p).length = qs.length + 1 := by simp only [List.length_append, List.length_take, List.length_cons, List.length_drop]; omega
  have hub : u.ownBlock ≠ some M := by
    intro e
    rcases hblk with h1 | h1
    · rw [h1] at e; have := hlt _ e; omega
    · rw [h1] at e; cases e; omega
  have hqb : ∀ q ∈ qs.take p ++ ((⟨r.cl, 0, []⟩ : Kep), Value.slice none 0 0) :: qs.drop p, q.2.ownBlock ≠ some M := fun q hq e => by
    rcases List.mem_append.1 hq with h1 | h1
    · have := hltq q (List.mem_of_mem_take h1) _ e; omega
    · rcases List.mem_cons.1 h1 with rfl | h2
      · cases e
      · have := hltq q (List.mem_of_mem_drop h2) _ e; omega
  have hO2 := hO1.off_write hub hqb hW2
  have hlt0 : p < (qs.take p ++ ((⟨r.cl, 0, []⟩ : Kep), Value.slice none 0 0) :: qs.drop p).length := by omega
  have hget : (qs.take p ++ ((⟨r.cl, 0, []⟩ : Kep), Value.slice none 0 0) :: qs.drop p)[p] = (⟨r.cl, 0, []⟩, .slice none 0 0) := by
    have hl : (qs.take p).length = p := by rw [List.length_take]; omega
    rw [List.getElem_append_right (by omega)]
    simp [hl]
  obtain ⟨g, cap2, cur, he, _⟩ := owns_some hO2.row (by omega)
  have hr2 : RightC win (qs.map (·.1)) := by rw [hqs]; exact hr
  refine ⟨g, cap2, _, hlt0, ⟨hv, by rw [← he]; exact hO2, by rw [← he]; exact hM, hm0, fun e => hub (by rw [he, e]; rfl), hqb⟩, ?_, by omega, ?_⟩
  · rw [hget]
    exact ⟨by show (0 : Int) ≤ 0; decide, by show (0 : Int) ≤ 1000; decide, hcl0, hcl, by have := hr.w0; simp only [List.length_nil]; omega, by simp, fun i hi => by simp at hi⟩
  · rw [hget, ← hqs]
    have h1 := putK_new win r (qs.map (·.1)) p (by simpa using hp) (fun q hq => by
      have h1 := hpp.2.2.1 q hq
      rwa [keyAt_at (by simp; omega)] at h1) (fun q hq hpq => by
      have hq' : q < qs.length := by simpa using hq
      have h1 := hpp.2.2.2 q hpq hq'
      have hlast : ¬ (keyAt (qs.map (·.1)) Kep.cl q = r.cl) := fun e => by
        have e1 := place_unique (by have := hr2.rising; simpa using this) hq' e hpp
        subst e1
        exact hff ⟨hq', e⟩
      rw [keyAt_at hq] at h1 hlast
      omega)
    rw [h1]
    have hl : ((qs.take p).map (·.1)).length = p := by rw [List.length_map, List.length_take]; omega
    simp only [List.map_append, List.map_cons, List.map_take, List.map_drop]
    rw [List.set_append, if_neg (by simp; omega)]
    simp only [List.length_take, List.length_map, Nat.min_eq_left hp, Nat.sub_self, List.set_cons_zero]

/-- A client's answers behind the put: if they are too many, the least is let go. -/
def Kep.fin (win : Int) (k : Kep) : Kep := if (k.rs.length : Int) > win then (match k.rs with | a :: l => ⟨k.cl, a.xid, l⟩ | [] => k) else k
theorem insertRep_ne (r : Rep) (rs : List Rep) : insertRep r rs ≠ [] := by
  cases rs with
  | nil => simp [insertRep]
  | cons a l => simp only [insertRep]; split <;> simp
theorem Kep.add_fin (win : Int) (k : Kep) (r : Rep) : Kep.add win k r = Kep.fin win ⟨k.cl, k.gone, insertRep r k.rs⟩ := by
  unfold Kep.add Kep.fin
  simp only
  split
  · have := insertRep_ne r k.rs
    cases h : insertRep r k.rs with
    | nil => exact absurd h this
    | cons a l => rfl
  · rfl
def Placed2 (w : World) (win : Int) (v : Value) (r : Rep) (M : Nat) (ks : List Kep) (p g cap : Nat) (W : World) : Prop :=
  ∃ (qs : List (Kep × Value)) (hp : p < qs.length), PutMid w win v r M g cap qs W ∧ qs[p].1.rs.length ≤ 101 ∧ qs[p].1.rs ≠ [] ∧ qs.length ≤ 101 ∧ putK win r ks = (qs.map (·.1)).set p (Kep.fin win qs[p].1)

theorem flat_get (qs : List (Kep × Value)) (p : Nat) (hp : p < qs.length) (spare : List Value) (j : Nat) (hj : j < 3) : ((qs.map krow).flatten ++ spare)[p * 3 + j]? = (krow qs[p])[j]? := by
  have e : qs = qs.take p ++ qs[p] :: qs.drop (p + 1) := by rw [← List.drop_eq_getElem_cons hp, List.take_append_drop]
  have hl : (qs.take p).length = p := by rw [List.length_take]; omega
  have hlf : ((qs.take p).map krow).flatten.length = p * 3 := by rw [flatten_length (krow_sz _), List.length_map, hl]
  conv => lhs; rw [e]
  simp only [List.map_append, List.map_cons, List.flatten_append, List.flatten_cons, List.append_assoc]
  rw [List.getElem?_append_right (by omega), hlf, Nat.add_sub_cancel_left, List.getElem?_append_left (by simpa [krow] using hj)]

/-- The cells that Put reads of the copy. -/
theorem PutMid.cells {w : World} {win : Int} {v : Value} {r : Rep} {M g cap p : Nat} {qs : List (Kep × Value)} {W : World} (h : PutMid w win v r M g cap qs W) (hp : p < qs.length) :
    (∀ j, W.cell? ⟨M, j, none⟩ = [.int .i64 win, .slice (some ⟨g, 0, none⟩) qs.length cap][j]?) ∧ W.cell? ⟨g, p * 3 + 1, none⟩ = some (.int .i64 qs[p].1.gone) ∧ W.cell? ⟨g, p * 3 + 2, none⟩ = some qs[p].2 ∧ (∀ j, W.frozen? ⟨g, j, none⟩ = false) ∧ g < W.heap.size ∧ qs.length ≤ cap ∧ cap ≤ maxLen ∧ w.heap.size + 3 ≤ g := by
  obtain ⟨spare, hr, hs, hBg, hnc, hcm⟩ := h.own.block rfl
  refine ⟨blk_cells (cs := [_, _]) h.out, ?_, ?_, blk_free hr, (Array.getElem?_eq_some_iff.1 hr).1, hnc, hcm, hBg⟩
  · rw [blk_cells hr, flat_get qs p hp spare 1 (by omega)]; rfl
  · rw [blk_cells hr, flat_get qs p hp spare 2 (by omega)]; rfl

theorem reps_take (rs : List Rep) (x : Nat) (hx : x ≤ rs.length) : ((rs.map Rep.cs).flatten).take (x * 11) = ((rs.take x).map Rep.cs).flatten := by
  have hl : ((rs.take x).map Rep.cs).flatten.length = x * 11 := by rw [flatten_length (reps_sz _), List.length_map, List.length_take]; congr 1; omega
  conv => lhs; rw [← List.take_append_drop x rs]
  rw [List.map_append, List.flatten_append]
  exact List.take_left' hl
theorem reps_drop (rs : List Rep) (x : Nat) (hx : x ≤ rs.length) : ((rs.map Rep.cs).flatten).drop (x * 11) = ((rs.drop x).map Rep.cs).flatten := by
  have hl : ((rs.take x).map Rep.cs).flatten.length = x * 11 := by rw [flatten_length (reps_sz _), List.length_map, List.length_take]; congr 1; omega
  conv => lhs; rw [← List.take_append_drop x rs]
  rw [List.map_append, List.flatten_append]
  exact List.drop_left' hl
theorem insertRep_length (r : Rep) (rs : List Rep) : (insertRep r rs).length = rs.length + 1 := by
  induction rs with
  | nil => rfl
  | cons a l ih => simp only [insertRep]; split <;> simp [ih]

theorem PutMid.set {w : World} {win : Int} {v : Value} {r : Rep} {M g cap p : Nat} {qs : List (Kep × Value)} {W W1 : World} (h : PutMid w win v r M g cap qs W) (hp : p < qs.length) {k : Kep} {u : Value} (hc : k.cl = qs[p].1.cl) (hg : k.gone = qs[p].1.gone)
    (hsz : W.heap.size ≤ W1.heap.size) (hb : Below w.heap.size W W1)
    (hoth : ∀ j, j < W.heap.size → some j ≠ qs[p].2.ownBlock → W1.heap[j]? = W.heap[j]?) (hu : W1.ownsRow (w.heap.size + 3) 49 11 u k.rs.length (k.rs.map Rep.cs).flatten)
    (hblk : u.ownBlock = qs[p].2.ownBlock ∨ ∃ j, u.ownBlock = some j ∧ W.heap.size ≤ j) : PutMid w win v r M g cap (qs.set p (k, u)) (W1.setCell ⟨g, p * 3 + 2, none⟩ u) := by
  obtain ⟨_, _, _, _, hgw, _, _, hgb⟩ := h.cells hp
  have hMw : M < W.heap.size := (Array.getElem?_eq_some_iff.1 h.out).1
  have hpm := List.getElem_mem hp
  have hset : ∀ j, j ≠ g → (W1.setCell ⟨g, p * 3 + 2, none⟩ u).heap[j]? = W1.heap[j]? := fun j hj => heap_setCell_other W1 _ j u hj
  have hlow : ∀ j, j < w.heap.size + 3 → some j ≠ qs[p].2.ownBlock := fun j hj e => by have := ((h.own.each _ hpm).lt j e.symm).1; omega
  refine ⟨h.vars.keep (fun j hj => (hset j (by omega)).trans (hoth j (by have := h.vars.lt; omega) (hlow j hj))) (hb.setCell (by simp; omega) _), ?_, ?_, h.m0, h.mg, ?_⟩
  · have := h.own.update hp hc hg hsz hoth hu hblk
    rwa [List.length_set] at this ⊢
  · rw [List.length_set, hset M h.mg, hoth M hMw (fun e => h.mq _ hpm e.symm)]
    exact h.out
  · intro q hq
    obtain ⟨i, hi, rfl⟩ := List.getElem_of_mem hq
    by_cases e : p = i
    · subst e
      rw [List.getElem_set_self]
      intro e2
      rcases hblk with h1 | ⟨j, h1, h2⟩
      · exact h.mq _ hpm (h1.symm.trans e2)
      · have := h1.symm.trans e2; cases this; omega
    · rw [getElem_set_ne' hi e]
      exact h.mq _ (List.getElem_mem _)

theorem Placed2.put {w : World} {win : Int} {v : Value} {r : Rep} {M g cap p x : Nat} {qs : List (Kep × Value)} {ks : List Kep} {W W1 : World} (h : PutMid w win v r M g cap qs W) (hp : p < qs.length) {u : Value} (hx : x ≤ qs[p].1.rs.length)
    (hput : putK win r ks = (qs.map (·.1)).set p (Kep.add win qs[p].1 r)) (hlk : qs[p].1.rs.length ≤ 100) (hl : qs.length ≤ 101) (hins : insertRep r qs[p].1.rs = qs[p].1.rs.take x ++ r :: qs[p].1.rs.drop x)
    (hsz : W.heap.size ≤ W1.heap.size) (hb : Below w.heap.size W W1)
    (hoth : ∀ j, j < W.heap.size → some j ≠ qs[p].2.ownBlock → W1.heap[j]? = W.heap[j]?)
    (hu : W1.ownsRow (w.heap.size + 3) 49 11 u (qs[p].1.rs.length + 1) (((qs[p].1.rs.map Rep.cs).flatten).take (x * 11) ++ (r.cs ++ ((qs[p].1.rs.map Rep.cs).flatten).drop (x * 11))))
    (hblk : u.ownBlock = qs[p].2.ownBlock ∨ ∃ j, u.ownBlock = some j ∧ W.heap.size ≤ j) : Placed2 w win v r M ks p g cap (W1.setCell ⟨g, p * 3 + 2, none⟩ u) := by
  have hm := h.set (k := ⟨qs[p].1.cl, qs[p].1.gone, insertRep r qs[p].1.rs⟩) hp rfl rfl hsz hb hoth (by
    rw [insertRep_length, hins]
    simp only [List.map_append, List.map_cons, List.flatten_append, List.flatten_cons]
    rw [← reps_take _ _ hx, ← reps_drop _ _ hx]
    exact hu) hblk
  refine ⟨_, by rw [List.length_set]; exact hp, hm, ?_, ?_, by rw [List.length_set]; exact hl, ?_⟩
  · rw [List.getElem_set_self]; show (insertRep r qs[p].1.rs).length ≤ 101; rw [insertRep_length]; omega
  · rw [List.getElem_set_self]; exact insertRep_ne _ _
  · rw [hput, List.getElem_set_self, Kep.add_fin, List.map_set, List.set_set]

theorem PutMid.setGone {w : World} {win : Int} {v : Value} {r : Rep} {M g cap p : Nat} {qs : List (Kep × Value)} {W : World} (h : PutMid w win v r M g cap qs W) (hp : p < qs.length) (x : Int) :
    PutMid w win v r M g cap (qs.set p (⟨qs[p].1.cl, x, qs[p].1.rs⟩, qs[p].2)) (W.setCell ⟨g, p * 3 + 1, none⟩ (.int .i64 x)) := by
  obtain ⟨_, _, _, _, hgw, _, _, hgb⟩ := h.cells hp
  have hset : ∀ j, j ≠ g → (W.setCell ⟨g, p * 3 + 1, none⟩ (.int .i64 x)).heap[j]? = W.heap[j]? := fun j hj => heap_setCell_other W _ j _ hj
  refine ⟨h.vars.keep (fun j hj => hset j (by omega)) ((Below.refl _ _).setCell (by simp; omega) _), ?_, ?_, h.m0, h.mg, ?_⟩
  · have := h.own.setGone hp x
    rwa [List.length_set] at this ⊢
  · rw [List.length_set, hset M h.mg]
    exact h.out
  · intro q hq
    obtain ⟨i, hi, rfl⟩ := List.getElem_of_mem hq
    by_cases e : p = i
    · subst e
      rw [List.getElem_set_self]
      show qs[p].2.ownBlock ≠ some M
      exact h.mq _ (List.getElem_mem hp)
    · rw [getElem_set_ne' hi e]
      exact h.mq _ (List.getElem_mem _)

/-- At Put's end. -/
theorem PutMid.kept {w : World} {win : Int} {v : Value} {r : Rep} {M g cap : Nat} {qs : List (Kep × Value)} {W : World} (h : PutMid w win v r M g cap qs W) {ks : List Kep} (hks : qs.map (·.1) = ks) (x y : Value) :
    Kept w win ks (.returned (.tuple #[.agg #[.int .i64 win, .slice (some ⟨g, 0, none⟩) qs.length cap], .int .i64 0])) ((W.setCell ⟨w.heap.size + 2, 0, none⟩ x).setCell ⟨w.heap.size + 2, 1, none⟩ y) := by
  refine ⟨_, qs, rfl, (h.own.same2 fun k hk _ => ?_).mono (by omega), hks, (h.vars.below.setCell (by simp) _).setCell (by simp) _⟩
  rw [heap_setCell_other _ _ _ _ (by simp; omega), heap_setCell_other _ _ _ _ (by simp; omega)]

theorem Kept.drew {w : World} {win : Int} {ks : List Kep} {e : Ending} {W : World} (h : Kept w win ks e W) : Kept w win ks e W.drew := by
  obtain ⟨v', qs, h1, h2, h3, h4⟩ := h
  exact ⟨v', qs, h1, h2.same fun _ _ => rfl, h3, h4.drew⟩

/-- The least answer has been let go. -/
theorem PutMid.drop {w : World} {win : Int} {v : Value} {r : Rep} {M g cap p g4 c4 : Nat} {qs : List (Kep × Value)} {W W1 : World} (h : PutMid w win v r M g cap qs W) (hp : p < qs.length) (a0 : Rep) (l0 : List Rep) (hal : qs[p].1.rs = a0 :: l0)
    (hu : qs[p].2 = .slice (some ⟨g4, 0, none⟩) qs[p].1.rs.length c4) (ho : W1.ownsRow (w.heap.size + 3) 49 11 (.slice (some ⟨g4, 0, none⟩) l0.length c4) l0.length (((a0 :: l0).map Rep.cs).flatten.drop 11))
    (hgr : ((W.setCell ⟨g, p * 3 + 1, none⟩ (.int .i64 a0.xid)).drew).grownBy W1 (some g4)) :
    PutMid w win v r M g cap (qs.set p (⟨qs[p].1.cl, a0.xid, l0⟩, .slice (some ⟨g4, 0, none⟩) l0.length c4)) (W1.setCell ⟨g, p * 3 + 2, none⟩ (.slice (some ⟨g4, 0, none⟩) l0.length c4)) := by
  have h1 := (h.setGone hp a0.xid).step ((Below.refl _ _).drew)
  have hp1 : p < (qs.set p (⟨qs[p].1.cl, a0.xid, qs[p].1.rs⟩, qs[p].2)).length := by rw [List.length_set]; exact hp
  have hb4 := ((h.own.each _ (List.getElem_mem hp)).lt g4 (by rw [hu]; rfl)).1
  have h2 := h1.set hp1 (k := ⟨qs[p].1.cl, a0.xid, l0⟩) (u := .slice (some ⟨g4, 0, none⟩) l0.length c4) (by rw [List.getElem_set_self]) (by rw [List.getElem_set_self]) hgr.size
    (((Below.refl w.heap.size _)).grown hgr (by have := h.vars.lt; simp [World.setCell]; omega) (fun k hk => by cases hk; omega))
    (fun j hj hne => hgr.block j hj (by rw [List.getElem_set_self] at hne; simp only at hne; rw [hu] at hne; exact hne)) (by simpa [Rep.cs] using ho)
    (by rw [List.getElem_set_self]; left; rw [hu]; rfl)
  rwa [List.set_set] at h2

set_option maxRecDepth 100000 in
set_option maxHeartbeats 12800000 in
theorem put10_new (win : Int) (v : Value) (ps : List (Kep × Value)) (r : Rep) (w : World) (hs : CacheAt w v ps) (hr : RightC win (ps.map (·.1))) (hn : ps.length ≤ 100) (hf : r.fits) (hw : r.cl < 16) (hx : 1 ≤ r.xid) (hk : (look (ps.map (·.1)) r.cl r.xid).2 = 0) :
    Calls Try.prog 10 #[.agg #[.int .i64 win, v], .agg #[.int .i64 r.cl, .int .i64 r.xid, .int .i64 0, .int .i64 r.hid, .int .i64 r.hgen, .bool false, .int .i64 r.size, .slice none 0 0, .slice none 0 0, .bool false, .int .i64 0]] w (Kept w win (putK win r (ps.map (·.1)))) := by
  have H32 := Lib.hid (fun W (hb : Below w.heap.size w W) => copied32 win v ps W (hs.below hb) (by omega) hr.lens)
  have H12 := Lib.hid (fun W (hb : Below w.heap.size w W) => right12 win v ps W (hs.below hb) hr (by omega))
  have H31 := Lib.hid (fun W => rr31 r W hf hw hx)
  have H11 := Lib.hid (fun W (hb : Below w.heap.size w W) => look11 win r.cl r.xid v ps W (hs.below hb) hr (by omega) hf.cl0 (by omega))
  have H33 := Lib.hid (fun W v' qs (h : CacheAt W v' qs) (hqs : qs.map (·.1) = ps.map (·.1)) => of33 win r.cl v' qs W h (by rw [hqs]; exact hr) (by have := congrArg List.length hqs; simp at this; omega) hf.cl0 (by omega))
  generalize look (ps.map (·.1)) r.cl r.xid = L at hk H11
  obtain ⟨rep, code⟩ := L
  simp only at hk
  subst hk
  obtain ⟨a, cap, rfl⟩ := SlOf.form hs.1
  have HR := Lib.hid hr
  have HF := Lib.hid hf
  clear hs hr hf
  go_enter Try.func10, Try.ntmps10
  go_upto_if 45 with (first
    | (go_at_call 32; refine (H32.out _ (PutVars.start w win _ r _ _).below).mono ?_; rintro e w1 ⟨v', qs, rfl, hoc, hqs, hb⟩; have hv1 := (PutVars.start w win _ r _ _).step hb; obtain ⟨a', c', rfl⟩ := SlOf.form (SlOf.owns hoc.row); have HOC := Lib.hid hoc; clear hoc; have hv2 := hv1.step ((Below.refl w1.heap.size w1).alloc (Nat.le_refl _) (.cells #[.int .i64 win, .slice a' qs.length c'] 39)); obtain ⟨hcA, hcB⟩ := hv2.cells)
    | (go_at_call 12; refine (H12.out _ hv2.below).mono ?_; rintro e w3 ⟨rfl, hb3⟩; have hv3 := hv2.step hb3; obtain ⟨hcA3, hcB3⟩ := hv3.cells)
    | (go_at_call 31; refine (H31.out _).mono ?_; rintro e w4 ⟨rfl, hb4⟩; have hv4 := hv3.step hb4; obtain ⟨hcA4, hcB4⟩ := hv4.cells)
    | (go_at_call 11; refine (H11.out _ hv4.below).mono ?_; rintro e w5 ⟨rfl, hb5⟩; have hv5 := hv4.step hb5)
    | ((with_reducible refine wpList_at_store 49 (.tmp 7) (.tmp 32) ?_); refine wpList_storeAll (cs := rep.cs) 49 (.tmp 7) (.tmp 32) rfl rfl rfl rfl (heap_alloc_new w5 _) Try.size49 rfl rep.one ?_; intro w6 hW; have hb6 := ((Below.refl w5.heap.size w5).alloc (Nat.le_refl _) _).trans (hW.below (Nat.le_refl _)); clear hW; have hv6 := hv5.step hb6; obtain ⟨hcA6, hcB6⟩ := hv6.cells; have hb1 : w1.heap.size ≤ (w1.alloc (.cells #[.int .i64 win, .slice a' qs.length c'] 39)).heap.size := by { simp }; have hb16 := ((hb3.trans (hb4.mono hb3.size)).trans ((hb5.trans (hb6.mono hb5.size)).mono (Nat.le_trans hb3.size hb4.size))); have hM0 := (hb16.block w1.heap.size (by simp)).trans (heap_alloc_new w1 _); have hM := blk_cells (cs := [_, _]) hM0; have hbl : Below w1.heap.size w1 w6 := ((Below.refl w1.heap.size w1).alloc (Nat.le_refl _) _).trans (hb16.mono hb1); have HO6 := Lib.hid (OwnCache.same2 HOC.out fun k _ hk => hbl.block k hk); clear hb3 hb4 hb5 hb6 hb16)
    | (go_at_call 33; refine (H33.out w6 _ qs HO6.out.cacheAt hqs).mono ?_; rintro e w7 ⟨p, f, rfl, hp, hff, hb7⟩; have hv7 := hv6.step hb7; have hM7 := (hb7.block w1.heap.size (Array.getElem?_eq_some_iff.1 hM0).1).trans hM0; have HO7 := Lib.hid ((OwnCache.same2 HO6.out fun k _ hk => hb7.block k hk).mono (show w.heap.size + 3 ≤ _ by simp)); have HLT := Lib.hid (fun k (hk : (Value.slice a' qs.length c').ownBlock = some k) => (HOC.out.row.lt k hk).2); have HLQ := Lib.hid (fun q (hq : q ∈ qs) k (hk : q.2.ownBlock = some k) => ((HOC.out.each q hq).lt k hk).2); have HP := Lib.hid hp; have HFF := Lib.hid hff; have HM7 := Lib.hid hM7; clear hp hff hM7; have hpq := HP.out.2.1))
  go_cut [] (fun wx => Placed w win (.slice a ps.length cap) r w1.heap.size (ps.map (·.1)) p wx)
  case first =>
    have hMw : w1.heap.size < w7.heap.size := (Array.getElem?_eq_some_iff.1 HM7.out).1
    have hW1 : w.heap.size + 2 < w1.heap.size := by have := hb.size; simp at this; omega
    have HW1 := Lib.hid hW1
    clear hW1
    cases f with
    | true =>
      obtain ⟨hp1, hp2⟩ := HFF.out.1 rfl
      have hpl := Placed.found hv7 HO7.out HM7.out HW1.out HLT.out HLQ.out hqs HR.out hn hp1 hp2
      have HPL := Lib.hid hpl
      clear hpl hcA6 hcB6 hM hcA hcB hcA3 hcB3 hcA4 hcB4
      go_wp2
      go_meet
      exact HPL.out
    | false =>
      have hno : ¬ (p < qs.length ∧ keyAt (qs.map (·.1)) Kep.cl p = r.cl) := fun h => by have := HFF.out.2 h; cases this
      have HNO := Lib.hid hno
      obtain ⟨hcA7, hcB7⟩ := hv7.cells
      have hM7c := blk_cells (cs := [_, _]) HM7.out
      have hlen : qs.length = ps.length := by have := congrArg List.length hqs; simpa using this
      have hq1000 : qs.length ≤ 1000 := by omega
      have hMf7 := blk_free HM7.out
      have HLEN := Lib.hid hlen
      have HONE := Lib.hid (krow_one qs fun q hq => (HO7.out.cacheAt.2 q hq).one)
      have HXB := Lib.hid (show (Value.slice a' qs.length c').ownBlock ≠ some w7.heap.size from fun e => by have := HLT.out _ e; omega)
      have hMne : w1.heap.size ≠ w7.heap.size := by omega
      have hMoff : some w1.heap.size ≠ (Value.slice a' qs.length c').ownBlock := fun e => by have := HLT.out _ e.symm; omega
      have HMO := Lib.hid hMoff
      clear hno hcA6 hcB6 hM hcA hcB hcA3 hcB3 hcA4 hcB4 hlen hMoff
      go_wp2_with (go_at_call 34; refine (ins34 (w.heap.size + 3) _ qs.length p (qs.map krow).flatten [.int .i64 r.cl, .int .i64 0, .slice none 0 0] w7.heap.size _ (ownsRow_below HO7.out.row ((Below.refl _ _).alloc (Nat.le_refl _) _) (Nat.le_refl _)) hpq hq1000 (by have := HW1.out; simp; omega) HONE.out (by simp [Value.oneCell']) rfl (heap_alloc_new w7 _) HXB.out).mono ?_; rintro e w8 ⟨u, rfl, hu, hgr, hbk⟩; obtain ⟨a8, c8, rfl⟩ := SlOf.form (SlOf.owns hu); have hM8 := (hgr.block w1.heap.size (by simp; omega) HMO.out).trans ((Below.heap_alloc w7 _ _ hMw).trans HM7.out); have hM8c := blk_cells (cs := [_, _]) hM8; have hM8f := blk_free hM8; have HU := Lib.hid hu; have HGR := Lib.hid hgr; have HBK := Lib.hid hbk; clear hu hgr hbk)
      go_meet
      have hlb : ∀ k, (Value.slice a' qs.length c').ownBlock = some k → w.heap.size + 3 ≤ k := fun k hk => (HO7.out.row.lt k hk).1
      have hw1 := HW1.out
      have hkeep : ∀ k, k < w.heap.size + 3 → w8.heap[k]? = w7.heap[k]? := fun k hk => (HGR.out.block k (by simp; omega) (fun e => by have := hlb k e.symm; omega)).trans (Below.heap_alloc w7 _ _ (by omega))
      have hb8 : Below w.heap.size w7 w8 := ((Below.refl w.heap.size w7).alloc (by omega) _).grown HGR.out (by simp; omega) (fun k hk => by have := hlb k hk; omega)
      exact Placed.fresh (W := w7.alloc (.cells #[.int .i64 r.cl, .int .i64 0, .slice none 0 0] 106)) (W1 := w8) (u := .slice a8 (qs.length + 1) c8) (hv7.keep (fun k hk => (heap_setCell_other _ _ _ _ (by simp; omega)).trans (hkeep k hk)) (hb8.setCell (by simp; omega) _)) (HO7.out.same2 fun k _ hk => Below.heap_alloc w7 _ _ hk) (block_setCell (cs := [_, _]) hM8 _) hw1 (by simp; omega) HLT.out HLQ.out hqs HR.out hn HF.out.cl0 hw HP.out HNO.out HU.out HGR.out HBK.out (fun k hk => heap_setCell_other _ _ _ _ (by simpa using hk))
  case rest =>
    obtain ⟨w10, rfl⟩ : ∃ w10 : World, w10 = wc := ⟨_, rfl⟩
    obtain ⟨g, cap2, qs2, hp2, hmid, hright, hl101, hput⟩ := hcut
    have hw1 : w.heap.size + 2 < w1.heap.size := by have := hb.size; simp at this; omega
    have hwin := HR.out.w1
    clear hv1 hcA hcB hv2 hv3 hv4 hcA3 hcB3 hcA4 hcB4 hv5 hv6 hcA6 hcB6 hM0 hM hbl hb1 hv7 hb7 hb hpq hqs
    obtain ⟨hcA, hcB⟩ := hmid.vars.cells
    obtain ⟨hMc, hg1, hg2, hgf, hgw, hle2, hmx2, hgb⟩ := hmid.cells hp2
    have hmx2' : cap2 ≤ 9223372036854775807 := by unfold maxLen at hmx2; omega
    have hK := SlOf.owns (hmid.own.each _ (List.getElem_mem hp2))
    obtain ⟨au, cu, hu⟩ := SlOf.form hK
    rw [hu] at hg2
    have HB := Lib.hid (fun W (hb : Below w10.heap.size w10 W) => bsf_reps qs2[p].1 win r.xid hright (by have := hright.len; omega) _ W (SlOf.below hK hb))
    rw [hu] at HB
    have HMID := Lib.hid hmid
    have HU := Lib.hid hu
    have HPUT := Lib.hid hput
    have HRIGHT := Lib.hid hright
    clear hmid hu hput hright hK hmx2
    go_upto_region 11 with fail
    go_cut [12, 13] (fun s12 s13 wx => ∃ x : Nat, s12 = .int .i64 x ∧ Parted (keyAt qs2[p].1.rs Rep.xid) r.xid qs2[p].1.rs.length x x ∧ Below w10.heap.size w10 wx)
    case first =>
      go_region_with (go_at_call 35; refine (HB.out _ ((Below.refl _ _).drew)).mono ?_; rintro e w3 ⟨x, f, rfl, hp, hff, hb3⟩)
      all_goals
        go_wp2
        go_meet
        exact ⟨x, rfl, hp, ((Below.refl _ _).drew).trans hb3⟩
    case rest =>
      obtain ⟨x, rfl, hpx, hb3⟩ := hcut
      clear hcA hcB hMc hg1 hg2 hgf hgw
      have hmid := HMID.out.step hb3
      obtain ⟨hcA, hcB⟩ := hmid.vars.cells
      obtain ⟨hMc, hg1, hg2, hgf, hgw, hle2, hmx2, hgb⟩ := hmid.cells hp2
      rw [HU.out] at hg2
      have hun : ∀ k, qs2[p].2.ownBlock = some k → k ≠ g ∧ k < wc.heap.size := fun k hk => by
        refine ⟨fun e => ?_, ((hmid.own.each _ (List.getElem_mem hp2)).lt k hk).2⟩
        rcases hmid.own.off _ (List.getElem_mem hp2) with h1 | h1
        · rw [h1] at hk; cases hk
        · rw [hk, e] at h1; exact h1 rfl
      rw [HU.out] at hun
      have HUN := Lib.hid hun
      have hown := hmid.own.each _ (List.getElem_mem hp2)
      unfold OwnKep at hown
      rw [HU.out] at hown
      have HOWN := Lib.hid hown
      have HN3 := Lib.hid (Nat.le_of_lt (Nat.lt_of_le_of_lt hgb hgw))
      have HM := Lib.hid hmid
      have hlenk : qs2[p].1.rs.length ≤ 100 := by have := HRIGHT.out.len; omega
      have hpx2 := hpx.2.1
      have HPX := Lib.hid hpx
      have HINS := Lib.hid (insertRep_place r qs2[p].1.rs x hpx)
      have hlenk' : qs2[p].1.rs.length ≤ 1000 := by omega
      clear hmid hun hpx hmx2 HB HMID hb3 hown
      go_upto_region 12 with fail
      go_cut [] (fun wx => Placed2 w win (.slice a ps.length cap) r w1.heap.size (ps.map (·.1)) p g cap2 wx)
      case first =>
        go_region_with (first
          | (go_at_call 38; refine (own38' r.cl r.xid r.hid r.hgen r.size _).mono ?_; rintro e w5 ⟨rfl, hb5⟩; have hg5 := (hb5.cell (p := ⟨g, p * 3 + 2, none⟩) hgw).trans hg2; have hs5 : wc.heap.size ≤ w5.heap.size := hb5.size; have hgw5 : g < w5.heap.size := Nat.lt_of_lt_of_le hgw hs5)
          | (go_at_call 37; refine (ins37 (w.heap.size + 3) _ _ x (qs2[p].1.rs.map Rep.cs).flatten r.cs w5.heap.size _ (ownsRow_below (ownsRow_below (World.ownsRow.drew HOWN.out) hb5 (Nat.le_refl _)) ((Below.refl _ _).alloc (Nat.le_refl _) _) (Nat.le_refl _)) hpx2 hlenk' (by have := HN3.out; simp; omega) (reps_one _) r.one rfl (heap_alloc_new w5 _) (fun e => by have := (HUN.out _ e).2; omega)).mono ?_; rintro e w6 ⟨u6, rfl, hu6, hgr, hbk⟩; obtain ⟨a6, c6, rfl⟩ := SlOf.form (SlOf.owns hu6); have hgh : w6.heap[g]? = wc.heap[g]? := (hgr.block g (by simp; omega) (fun e => (HUN.out _ e.symm).1 rfl)).trans ((Below.heap_alloc w5 _ _ hgw5).trans (hb5.block g hgw)); have hg6 := (World.cell?_of_block (w := wc) (a := ⟨g, p * 3 + 2, none⟩) hgh).trans hg2; have hf6 := (World.frozen?_of_block (w := wc) (a := ⟨g, p * 3 + 2, none⟩) hgh).trans (hgf _); have HU6 := Lib.hid hu6; have HGR := Lib.hid hgr; have HBK := Lib.hid hbk; have HB5 := Lib.hid hb5; clear hu6 hgr hbk hgh hb5))
        all_goals
          go_wp2
          go_meet
          exact Placed2.put (W := wc) (W1 := w6) HM.out hp2 hpx2 HPUT.out hlenk hl101 HINS.out (Nat.le_trans (by simp; omega) HGR.out.size)
            (((((Below.refl w.heap.size wc).drew).trans (HB5.out.mono (by have := HN3.out; show w.heap.size ≤ wc.heap.size; omega))).alloc (by have := HN3.out; omega) _).grown HGR.out (by have := HN3.out; simp; omega) (fun k hk => by have := (HOWN.out.lt k hk).1; omega))
            (fun j hj hne => (HGR.out.block j (by simp; omega) (by rw [← HU.out]; exact hne)).trans ((Below.heap_alloc w5 _ _ (by omega)).trans (HB5.out.block j hj)))
            HU6.out (by
              rcases HBK.out with h1 | h1
              · exact .inl (by rw [h1, HU.out])
              · exact .inr ⟨_, h1, by simp; omega⟩)
      case rest =>
        obtain ⟨w12, rfl⟩ : ∃ w12 : World, w12 = wc := ⟨_, rfl⟩
        obtain ⟨qs3, hp3, hmid, hl3, hne3, hl3', hput3⟩ := hcut
        clear hcA hcB hMc hg1 hg2 hgf hgw hle2 hgb HUN HOWN HN3 HM HU HPX HINS HPUT HRIGHT
        obtain ⟨hcA, hcB⟩ := hmid.vars.cells
        obtain ⟨hMc, hg1, hg2, hgf, hgw, hle2, hmx2, hgb⟩ := hmid.cells hp3
        obtain ⟨g4, c4, cur4, hu4, hgb4, hblk4, hle4, hmx4, hlen4, htk4⟩ := owns_some (hmid.own.each _ (List.getElem_mem hp3)) (fun h => hne3 (List.eq_nil_of_length_eq_zero h))
        rw [hu4] at hg2
        have HMID := Lib.hid hmid
        have HU4 := Lib.hid hu4
        have HB4 := Lib.hid hblk4
        have HT4 := Lib.hid htk4
        have HL4 := Lib.hid hlen4
        have HP3 := Lib.hid hput3
        have HNE := Lib.hid hne3
        have hmx4' : c4 ≤ 9223372036854775807 := by unfold maxLen at hmx4; omega
        clear hmid hu4 hblk4 htk4 hlen4 hput3 hmx2 hne3
        go_upto_region 13 with fail
        go_region
        by_cases hlw : win < (qs3[p].1.rs.length : Int)
        · obtain ⟨a0, l0, hal⟩ : ∃ a0 l0, qs3[p].1.rs = a0 :: l0 := by
            cases h : qs3[p].1.rs with
            | nil => exact absurd h HNE.out
            | cons a l => exact ⟨a, l, rfl⟩
          have hlen : qs3[p].1.rs.length = l0.length + 1 := by rw [hal]; rfl
          have hpos : 0 < qs3[p].1.rs.length := by omega
          have hl0 : l0.length ≤ 1000 := by omega
          rw [hlen] at hg2
          have hx1 : w12.cell? ⟨g4, 1, none⟩ = some (.int .i64 a0.xid) := by
            rw [blk_cells HB4.out]
            have h1 : (cur4.take (qs3[p].1.rs.length * 11))[1]? = some (.int .i64 a0.xid) := by rw [HT4.out, hal]; rfl
            rwa [List.getElem?_take, if_pos (by omega)] at h1
          have hgg : g4 ≠ g := fun e => by
            rcases HMID.out.own.off _ (List.getElem_mem hp3) with h1 | h1
            · rw [HU4.out] at h1; cases h1
            · rw [HU4.out, e] at h1; exact h1 rfl
          have HAL := Lib.hid hal
          have HLEN := Lib.hid hlen
          obtain ⟨x4, y4, hcC, hfC⟩ := HMID.out.vars.res
          have hg4w : g4 < w12.heap.size := (Array.getElem?_eq_some_iff.1 HB4.out).1
          have hng : ¬ g = g4 := fun e => hgg e.symm
          have hNg : w.heap.size + 2 ≠ g := by omega
          have hNg' : ¬ g = w.heap.size + 1 + 1 := by omega
          have hMg : ¬ g = w1.heap.size := fun e => HMID.out.mg e.symm
          have HB5 := Lib.hid (show ((w12.setCell ⟨g, p * 3 + 1, none⟩ (.int .i64 a0.xid)).drew).heap[g4]? = some (.cells cur4.toArray 49 (0, 0)) from (heap_setCell_other w12 ⟨g, p * 3 + 1, none⟩ g4 _ hgg).trans HB4.out)
          clear hal hlen
          go_wp2_with (go_at_call 39; go_loud (refine (del39 (w.heap.size + 3) g4 c4 l0.length ((a0 :: l0).map Rep.cs).flatten cur4 _ HB5.out hgb4 HL4.out (by have := HT4.out; rw [HLEN.out, HAL.out] at this; exact this) (by rw [flatten_length (reps_sz _)]; simp) (by have := HLEN.out; omega) hmx4 hl0 (reps_one _)).mono ?_; rintro e w14 ⟨rfl, hown, hgr⟩; have hgh : w14.heap[g]? = (w12.setCell ⟨g, p * 3 + 1, none⟩ (.int .i64 a0.xid)).heap[g]? := hgr.block g (by simpa [World.setCell] using hgw) (fun e => hng (by cases e; rfl)); have hg14 : w14.cell? ⟨g, p * 3 + 2, none⟩ = some (.slice (some ⟨g4, 0, none⟩) (l0.length + 1) c4) := (World.cell?_of_block (w := w12.setCell ⟨g, p * 3 + 1, none⟩ (.int .i64 a0.xid)) (a := ⟨g, p * 3 + 2, none⟩) hgh).trans (by simp [go_sem, hg2]); have hf14 : w14.frozen? ⟨g, p * 3 + 2, none⟩ = false := (World.frozen?_of_block (w := w12.setCell ⟨g, p * 3 + 1, none⟩ (.int .i64 a0.xid)) (a := ⟨g, p * 3 + 2, none⟩) hgh).trans (by simp [go_sem, hgf]); have hm14 := HMID.out.drop hp3 a0 l0 HAL.out HU4.out hown hgr; have hM14 := blk_cells (cs := [_, _]) ((heap_setCell_other w14 ⟨g, p * 3 + 2, none⟩ w1.heap.size _ hm14.mg).symm.trans hm14.out); rw [List.length_set] at hM14; obtain ⟨x5, y5, hc5⟩ := hm14.vars.c; have hc5' := (heap_setCell_other w14 ⟨g, p * 3 + 2, none⟩ (w.heap.size + 2) _ hNg).symm.trans hc5; have hcC14 := blk_cells (cs := [_, _]) hc5'; have hfC14 := blk_free hc5'; have HM14 := Lib.hid hm14; clear hown hgr hgh hm14 hc5 hc5'))
          have hfin : (qs3.set p (⟨qs3[p].1.cl, a0.xid, l0⟩, .slice (some ⟨g4, 0, none⟩) l0.length c4)).map (·.1) = putK win r (ps.map (·.1)) := by
            rw [HP3.out, Kep.fin, if_pos hlw, HAL.out, List.map_set]
          exact bodyPost_ret (v := .tuple #[.agg #[.int .i64 win, .slice (some ⟨g, 0, none⟩) qs3.length cap2], .int .i64 0]) (by simp [results, Try.results10, go_sem, hcC14]) rfl (by have := HM14.out.kept hfin (.int .i64 win) (.slice (some ⟨g, 0, none⟩) qs3.length cap2); rw [List.length_set] at this; exact this)
        · obtain ⟨x4, y4, hcC, hfC⟩ := HMID.out.vars.res
          go_wp2
          have hfin : qs3.map (·.1) = putK win r (ps.map (·.1)) := by
            rw [HP3.out, Kep.fin, if_neg (by omega)]
            have h2 := @List.set_getElem_self _ (qs3.map (·.1)) p (by simpa using hp3)
            rw [List.getElem_map] at h2
            exact h2.symm
          exact bodyPost_ret (v := .tuple #[.agg #[.int .i64 win, .slice (some ⟨g, 0, none⟩) qs3.length cap2], .int .i64 0]) (by simp [results, Try.results10, go_sem, hcC]) rfl (HMID.out.kept hfin _ _).drew

/-- replies.Put. -/
theorem put10_good (win : Int) (v : Value) (ps : List (Kep × Value)) (r : Rep) (w : World) (hs : CacheAt w v ps) (hr : RightC win (ps.map (·.1))) (hn : ps.length ≤ 100) (hf : r.fits) (hw : r.cl < 16) (hx : 1 ≤ r.xid) (hk : (look (ps.map (·.1)) r.cl r.xid).2 = 0) :
    Calls Try.prog 10 #[.agg #[.int .i64 win, v], .agg r.cs.toArray] w (Kept w win (putK win r (ps.map (·.1)))) := put10_new win v ps r w hs hr hn hf hw hx hk
theorem put10_bad (win : Int) (v : Value) (ps : List (Kep × Value)) (r : Rep) (w : World) (hs : CacheAt w v ps) (hr : RightC win (ps.map (·.1))) (hn : ps.length ≤ 100) (hf : r.fits) (hb : r.cl < 16 → 1 ≤ r.xid → (look (ps.map (·.1)) r.cl r.xid).2 ≠ 0) :
    Calls Try.prog 10 #[.agg #[.int .i64 win, v], .agg r.cs.toArray] w (Refused w win ps) := by
  by_cases h : r.cl < 16 ∧ 1 ≤ r.xid
  · exact put10_known win v ps r w hs hr (by omega) hf h.1 h.2 (hb h.1 h.2)
  · exact put10_wrong win v ps r w hs hr (by omega) hf h
end Go.Proofs.Ytihfikepfhcboaa
