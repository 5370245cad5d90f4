/- replies.copied, walked. Conditions: each stands in its own theorem. -/
import Derived.Test.YtihfikepfhcboaaCopied
namespace Go.Proofs.Ytihfikepfhcboaa
open Go.RowKit

theorem blk_cells {W : World} {g : Nat} {cs : List Value} {t : TypeId} (h : W.heap[g]? = some (.cells cs.toArray t (0, 0))) (j : Nat) : W.cell? ⟨g, j, none⟩ = cs[j]? := by
  rw [cell_of_row W g j _ t (0, 0) h]; simp
theorem blk_free {W : World} {g : Nat} {cs : Array Value} {t : TypeId} (h : W.heap[g]? = some (.cells cs t (0, 0))) (j : Nat) : W.frozen? ⟨g, j, none⟩ = false := by
  simp [World.frozen?, h]
theorem owns_some {w : World} {B : Nat} {e : TypeId} {sz : Nat} {v : Value} {n : Nat} {xs : List Value} (h : w.ownsRow B e sz v n xs) (hn : n ≠ 0) :
    ∃ (g c : Nat) (cur : List Value), v = .slice (some ⟨g, 0, none⟩) n c ∧ B ≤ g ∧ w.heap[g]? = some (.cells cur.toArray e (0, 0)) ∧ n ≤ c ∧ c ≤ maxLen ∧ cur.length = c * sz ∧ cur.take (n * sz) = xs := by
  rcases h.2 with ⟨_, rfl⟩ | ⟨g, cap, cur, rfl, hb, hg, hnc, hcm, hcs, htake⟩
  · exact absurd rfl hn
  · exact ⟨g, cap, cur.toList, rfl, hb, by simpa using hg, hnc, hcm, by simpa using hcs, htake⟩
theorem splice_same {α : Type} (cur cs : List α) (off : Nat) (h : ∀ j v, cs[j]? = some v → cur[off + j]? = some v) (hfit : off + cs.length ≤ cur.length) : splice cur off cs = cur := by
  unfold splice
  apply List.ext_getElem?
  intro j
  simp only [List.getElem?_append, List.length_take, List.getElem?_take, List.getElem?_drop]
  split
  · split
    · rfl
    · omega
  · split
    · rename_i h1 h2
      have hj : j - min off cur.length < cs.length := h2
      have := h (j - min off cur.length) _ (List.getElem?_eq_getElem hj)
      rw [List.getElem?_eq_getElem hj, ← this]
      congr 1
      omega
    · congr 1
      omega

theorem krow_one (ps : List (Kep × Value)) (h : ∀ p ∈ ps, p.2.oneCell' = true) : ∀ u ∈ (ps.map krow).flatten, u.oneCell' = true := by
  intro u hu
  simp only [List.mem_flatten, List.mem_map] at hu
  obtain ⟨l, ⟨p, hp, rfl⟩, hl⟩ := hu
  simp only [krow, List.mem_cons, List.not_mem_nil, or_false] at hl
  rcases hl with rfl | rfl | rfl
  · rfl
  · rfl
  · exact h p hp

def Copied (w : World) (win : Int) (ps : List (Kep × Value)) (e : Ending) (w' : World) : Prop :=
  ∃ v' qs, e = .returned (.agg #[.int .i64 win, v']) ∧ OwnCache w' w.heap.size v' qs ∧ qs.map (·.1) = ps.map (·.1) ∧ Below w.heap.size w w'

set_option maxRecDepth 100000 in
set_option maxHeartbeats 1600000 in
theorem copied32_nil (win : Int) (v : Value) (w : World) (hs : CacheAt w v []) :
    Calls Try.prog 32 #[.agg #[.int .i64 win, v]] w (Copied w win []) := by
  have H := Lib.hid (fun W (hb : Below w.heap.size w W) => clone68 v 0 [] W (by simpa using SlOf.below hs.1 hb) (by simp) (by decide))
  obtain ⟨a, cap, rfl⟩ := SlOf.form hs.1
  clear hs
  go_enter Try.func32, Try.ntmps32
  go_wp2_with (go_at_call 68; refine (H.out _ ((((Below.refl _ _).alloc (Nat.le_refl _) _).alloc (by simp) _))).mono ?_; rintro e w1 ⟨v', rfl, hown, hb⟩; obtain ⟨a', c', rfl⟩ := SlOf.form (SlOf.owns hown); have hA := blk_cells (cs := [_, _]) ((hb.block w.heap.size (by simp; omega)).trans (heap_alloc2_old w _ _)); have hAf := blk_free ((hb.block w.heap.size (by simp; omega)).trans (heap_alloc2_old w _ _)); have hB := blk_cells (cs := [_, _]) ((hb.block (w.heap.size + 1) (by simp)).trans (heap_alloc2_new w _ _)); have hBf := blk_free ((hb.block (w.heap.size + 1) (by simp)).trans (heap_alloc2_new w _ _)); have HO := Lib.hid hown; clear hown)
  go_loop [13] (fun i => i = .int .i64 0) (fun _ => 0)
  case atStart => rfl
  case round =>
    subst hrel
    go_wp2
    have hb0 := ((((Below.refl w.heap.size w).alloc (Nat.le_refl _) (.cells #[.int .i64 win, .slice a 0 cap] 39)).alloc (by simp) (.cells #[.int .i64 0, .slice none 0 0] 39))).trans (hb.mono (by simp; omega))
    exact bodyPost_ret (v := .agg #[.int .i64 win, .slice a' 0 c']) (by simp [results, Try.results32, go_sem, hB]) rfl ⟨_, [], rfl, ⟨ownsRow_mono (ownsRow_same HO.out (fun k hk => by
      have := (HO.out.lt k hk).1
      simp at this
      rw [heap_setCell_other _ _ _ _ (by simp; omega), heap_setCell_other _ _ _ _ (by simp; omega), heap_setCell_other _ _ _ _ (by simp; omega)])) (by simp; omega), by simp, fun i j hi hj => by simp at hj, by simp⟩, rfl,
      ((hb0.setCell (by simp) _).setCell (by simp) _).setCell (by simp) _⟩

theorem oneCell_slice (a : Option Addr) (n c : Nat) : (Value.slice a n c).oneCell' = true := rfl
theorem KepAt.one {w : World} {k : Kep} {u : Value} (h : KepAt w k u) : u.oneCell' = true := by
  obtain ⟨a, c, rfl⟩ := SlOf.form h; rfl

/-- The world behind the first clone and its store. -/
theorem CopyInv.start {w w1 : World} {win : Int} {v : Value} {ps : List (Kep × Value)} {g cap : Nat} {A B : Obj} (hA : A = .cells #[.int .i64 win, v] 39) (hB : ∃ x y, B = .cells #[x, y] 39)
    (hb : Below ((w.alloc A).alloc B).heap.size ((w.alloc A).alloc B) w1) (ho : w1.ownsRow ((w.alloc A).alloc B).heap.size 106 3 (.slice (some ⟨g, 0, none⟩) ps.length cap) ps.length (ps.map krow).flatten) :
    CopyInv w win ps [] g cap 0 (w1.setCell ⟨w.heap.size, 1, none⟩ (.slice (some ⟨g, 0, none⟩) ps.length cap)) := by
  have hlt := ho.lt g rfl
  have hsz : ((w.alloc A).alloc B).heap.size = w.heap.size + 2 := by simp
  have hb0 : Below w.heap.size w w1 := (((Below.refl w.heap.size w).alloc (Nat.le_refl _) A).alloc (by simp) B).trans (hb.mono (by omega))
  rcases ho.2 with ⟨h1, _⟩ | ⟨g', cap', cur, h1, _, hg, hnc, hcm, hcs, htake⟩
  · cases h1
  · injection h1 with e1 e2 e3
    cases e1
    subst e3
    refine ⟨hb0.setCell (Nat.le_refl _) _, ?_, ?_, ⟨cur.toList.drop (ps.length * 3), ?_, ?_⟩, by omega, by simp [World.setCell]; exact hlt.2, hnc, hcm, rfl, by simp, fun i j hi hj => by simp at hj⟩
    · have := (hb.block w.heap.size (by omega)).trans (heap_alloc2_old w A B)
      rw [hA] at this
      exact block_setCell (cs := [_, _]) this _
    · obtain ⟨x, y, hB⟩ := hB
      refine ⟨x, y, ?_⟩
      rw [heap_setCell_other _ _ _ _ (by simp), hb.block _ (by omega), heap_alloc2_new w A B, hB]
    · rw [heap_setCell_other _ _ _ _ (by simp; omega), hg]
      congr 2
      apply Array.toList_inj.1
      simp only [List.nil_append, List.drop_zero]
      rw [← htake, List.take_append_drop]
    · simp only [List.length_drop, Array.length_toList, hcs]
      have := Nat.mul_le_mul_right 3 hnc
      omega

theorem rows_get (qs rest : List (Kep × Value)) (p : Kep × Value) (spare : List Value) : (((qs ++ p :: rest).map krow).flatten ++ spare)[qs.length * 3 + 2]? = some p.2 := by
  have hl : (qs.map krow).flatten.length = qs.length * 3 := by rw [flatten_length (krow_sz qs), List.length_map]
  simp only [List.map_append, List.map_cons, List.flatten_append, List.flatten_cons, List.append_assoc]
  rw [List.getElem?_append_right (by omega), hl, Nat.add_sub_cancel_left]
  rfl
theorem CopyInv.cell {w : World} {win : Int} {ps qs : List (Kep × Value)} {g cap i : Nat} {W : World} (h : CopyInv w win ps qs g cap i W) (hi : i < ps.length) : W.cell? ⟨g, i * 3 + 2, none⟩ = some ps[i].2 ∧ W.frozen? ⟨g, i * 3 + 2, none⟩ = false := by
  obtain ⟨spare, hr, hs⟩ := h.row
  refine ⟨?_, blk_free hr _⟩
  rw [blk_cells hr, List.drop_eq_getElem_cons hi]
  have := rows_get qs (ps.drop (i + 1)) ps[i] spare
  rwa [h.len (Nat.le_of_lt hi)] at this
theorem CopyInv.done {w : World} {win : Int} {ps qs : List (Kep × Value)} {g cap : Nat} {W : World} (h : CopyInv w win ps qs g cap ps.length W) : OwnCache W (w.heap.size + 2) (.slice (some ⟨g, 0, none⟩) ps.length cap) qs := by
  have hl := h.len (Nat.le_refl _)
  obtain ⟨spare, hr, hs⟩ := h.row
  have hg0 := h.g0
  have hll : (qs.map krow).flatten.length = ps.length * 3 := by rw [flatten_length (krow_sz qs), List.length_map, hl]
  simp only [List.drop_length, List.append_nil] at hr
  refine ⟨⟨by rw [hll, hl], .inr ⟨g, cap, _, by rw [hl], by omega, hr, by rw [hl]; exact h.cap0, h.cap1, by simp only [List.size_toArray, List.length_append, hll]; omega, by rw [hl]; exact List.take_left' hll⟩⟩, fun p hp => (h.each p hp).mono (by omega), h.apart, fun p hp => ?_⟩
  cases hq : p.2.ownBlock with
  | none => exact .inl rfl
  | some k =>
    refine .inr fun he => ?_
    have := ((h.each p hp).lt k hq).1
    simp only [Value.ownBlock, Option.some.injEq] at he
    omega
theorem OwnCache.same {W W' : World} {B : Nat} {v : Value} {qs : List (Kep × Value)} (h : OwnCache W B v qs) (hs : ∀ k, B ≤ k → W'.heap[k]? = W.heap[k]?) : OwnCache W' B v qs :=
  ⟨ownsRow_same h.row fun k hk => hs k (h.row.lt k hk).1, fun p hp => ownsRow_same (h.each p hp) fun k hk => hs k ((h.each p hp).lt k hk).1, h.apart, h.off⟩
theorem OwnCache.mono {W : World} {B B' : Nat} {v : Value} {qs : List (Kep × Value)} (h : OwnCache W B v qs) (hB : B' ≤ B) : OwnCache W B' v qs :=
  ⟨ownsRow_mono h.row hB, fun p hp => (h.each p hp).mono hB, h.apart, h.off⟩

/-- Cells that hold already what is stored. -/
theorem run_storeCells_same {P : Program} {W : World} {g off : Nat} {cs cur : List Value} {t : TypeId} (hg : W.heap[g]? = some (.cells cur.toArray t (0, 0))) (h : ∀ j v, cs[j]? = some v → cur[off + j]? = some v) (hfit : off + cs.length ≤ cur.length) (h1 : ∀ v ∈ cs, v.oneCell' = true) :
    (storeCells ⟨g, off, none⟩ cs).run P W = .ok () W := by
  have hst := run_storeCells_at P g off t cs 0 cur.toArray W hg (by simpa using hfit) h1
  simp only [Nat.add_zero] at hst
  have e : ((List.take off cur ++ cs ++ List.drop (off + cs.length) cur) : List Value) = splice cur off cs := by simp [splice]
  rw [e, splice_same cur cs off h hfit, setRow_self W g _ t (0, 0) hg] at hst
  exact hst

/-- The cells of an answer, one by one; each holds what it would be given anew. -/
structure Rep.At (r : Rep) (W : World) (b o : Nat) : Prop where
  row : Row W b o r.cs
  free : ∀ j, W.frozen? ⟨b, j, none⟩ = false
theorem Rep.At.cells {r : Rep} {W : World} {b o : Nat} (h : r.At W b o) :
    W.cell? ⟨b, o, none⟩ = some (.int .i64 r.cl) ∧ W.cell? ⟨b, o + 1, none⟩ = some (.int .i64 r.xid) ∧ W.cell? ⟨b, o + 2, none⟩ = some (.int .i64 0) ∧ W.cell? ⟨b, o + 3, none⟩ = some (.int .i64 r.hid) ∧ W.cell? ⟨b, o + 4, none⟩ = some (.int .i64 r.hgen) ∧
    W.cell? ⟨b, o + 5, none⟩ = some (.bool false) ∧ W.cell? ⟨b, o + 6, none⟩ = some (.int .i64 r.size) ∧ W.cell? ⟨b, o + 7, none⟩ = some (.slice none 0 0) ∧ W.cell? ⟨b, o + 8, none⟩ = some (.slice none 0 0) ∧ W.cell? ⟨b, o + 9, none⟩ = some (.bool false) ∧ W.cell? ⟨b, o + 10, none⟩ = some (.int .i64 0) :=
  ⟨h.row 0 _ rfl, h.row 1 _ rfl, h.row 2 _ rfl, h.row 3 _ rfl, h.row 4 _ rfl, h.row 5 _ rfl, h.row 6 _ rfl, h.row 7 _ rfl, h.row 8 _ rfl, h.row 9 _ rfl, h.row 10 _ rfl⟩
theorem Rep.At.below {r : Rep} {W W' : World} {b o C : Nat} (h : r.At W b o) (hb : Below C W W') (hC : b < C) : r.At W' b o :=
  ⟨h.row.below hb hC, fun j => by rw [hb.frozen (p := ⟨b, j, none⟩) hC]; exact h.free j⟩

set_option maxRecDepth 100000 in
set_option maxHeartbeats 6400000 in
theorem copied32_some (win : Int) (v : Value) (ps : List (Kep × Value)) (w : World) (hs : CacheAt w v ps) (hn : ps.length ≤ 1000) (hpos : ps.length ≠ 0) (hrs : ∀ p ∈ ps, p.1.rs.length ≤ 1000) :
    Calls Try.prog 32 #[.agg #[.int .i64 win, v]] w (Copied w win ps) := by
  have H := Lib.hid (fun W (hb : Below w.heap.size w W) => clone68 v ps.length (ps.map krow).flatten W (SlOf.below hs.1 hb) (krow_one ps fun p hp => (hs.2 p hp).one) hn)
  have K := Lib.hid hs.2
  have HRS := Lib.hid hrs
  obtain ⟨a, cap, rfl⟩ := SlOf.form hs.1
  clear hs hrs
  go_enter Try.func32, Try.ntmps32
  go_wp2_with (go_at_call 68; refine (H.out _ ((((Below.refl _ _).alloc (Nat.le_refl _) _).alloc (by simp) _))).mono ?_; rintro e w1 ⟨v', rfl, hown, hb⟩; obtain ⟨g, c', cur, rfl, hgb, _⟩ := owns_some hown hpos; have hA := blk_cells (cs := [_, _]) ((hb.block w.heap.size (by simp; omega)).trans (heap_alloc2_old w _ _)); have hAf := blk_free ((hb.block w.heap.size (by simp; omega)).trans (heap_alloc2_old w _ _)); have hI := CopyInv.start rfl ⟨_, _, rfl⟩ hb hown; clear hown)
  go_loopw [13] (fun vi wr => ∃ i qs, i ≤ ps.length ∧ vi = .int .i64 i ∧ CopyInv w win ps qs g c' i wr) (fun vi _ => (ps.length - intOf vi).toNat)
  case atStart => exact ⟨0, [], Nat.zero_le _, rfl, hI⟩
  case round =>
    obtain ⟨wo, rfl⟩ : ∃ wo : World, wo = wr := ⟨_, rfl⟩
    obtain ⟨i, qs, hi, rfl, hI⟩ := hrel
    clear hA hAf hb hgb
    have hg0 := hI.g0
    have hg1 := hI.g1
    have hcap := hI.cap0
    have hcap1 : c' ≤ 9223372036854775807 := by have := hI.cap1; unfold maxLen at this; omega
    have hA := blk_cells (cs := [_, _]) hI.a
    by_cases hlt : i < ps.length
    · have hmem := List.getElem_mem hlt
      have hKr := (K.out _ hmem).below hI.below
      obtain ⟨hc1, hc2⟩ := hI.cell hlt
      obtain ⟨a0, c0, hu0⟩ := SlOf.form hKr
      rw [hu0] at hc1
      have HC := Lib.hid (clone69 ps[i].2 _ _ wo hKr (reps_one _) (HRS.out _ hmem))
      rw [hu0] at HC
      have HI := Lib.hid hI
      clear hI hu0 hKr
      by_cases hm : ps[i].1.rs.length = 0
      · have HM := Lib.hid hm
        clear hm
        go_wp2_with (go_at_call 69; refine HC.out.mono ?_; rintro e w2 ⟨u, rfl, hu, hb2⟩; obtain ⟨a1, c1, rfl⟩ := SlOf.form (SlOf.owns hu); have hI2 := HI.out.put hlt hb2 hu; have hd1 := (hb2.cell (p := ⟨g, i * 3 + 2, none⟩) hg1).trans hc1; have hd2 := (hb2.frozen (p := ⟨g, i * 3 + 2, none⟩) hg1).trans hc2; have HI2 := Lib.hid hI2; clear hI2 hu hb2)
        have hm0 : ¬ (0 < ps[i].1.rs.length) := by rw [HM.out]; decide
        go_loop [33] (fun j => j = .int .i64 0) (fun _ => 0)
        case atStart => rfl
        case round =>
          subst hrel
          go_wp2
          go_roundw
          case rel => exact ⟨i + 1, _, hlt, by go_num, HI2.out⟩
          case measure => simp [intOf]; omega
      · have HM := Lib.hid hm
        clear hm
        go_wp2_with (go_at_call 69; refine HC.out.mono ?_; rintro e w2 ⟨u, rfl, hu, hb2⟩; obtain ⟨g1, c1, cur1, rfl, hgw, hrow1, hle1, hmx1, hlen1, htk1⟩ := owns_some hu HM.out; have hI2 := HI.out.put hlt hb2 hu; have hd1 := (hb2.cell (p := ⟨g, i * 3 + 2, none⟩) hg1).trans hc1; have hd2 := (hb2.frozen (p := ⟨g, i * 3 + 2, none⟩) hg1).trans hc2; have HI2 := Lib.hid hI2; have HR1 := Lib.hid hrow1; have HL1 := Lib.hid hlen1; have HT1 := Lib.hid htk1; have hc1m : c1 ≤ 9223372036854775807 := by { unfold maxLen at hmx1; omega }; clear hI2 hu hb2 hrow1 hlen1 htk1 hmx1)
        have hgg : g ≠ g1 := by omega
        have hm1000 := HRS.out _ hmem
        go_loopw [33] (fun vj w3 => ∃ x : Nat, x ≤ ps[i].1.rs.length ∧ vj = .int .i64 x ∧ Below w2.heap.size (w2.setCell ⟨g, i * 3 + 2, none⟩ (.slice (some ⟨g1, 0, none⟩) ps[i].1.rs.length c1)) w3) (fun vj _ => (ps[i].1.rs.length - intOf vj).toNat)
        case atStart => exact ⟨0, Nat.zero_le _, rfl, Below.refl _ _⟩
        case round =>
          obtain ⟨x, hx, rfl, hb3⟩ := hrel
          by_cases hxl : x < ps[i].1.rs.length
          · have hg1w : g1 < w2.heap.size := (Array.getElem?_eq_some_iff.1 HR1.out).1
            have hgw2 : g < w2.heap.size := by have := HI2.out.g1; simpa [World.setCell] using this
            have hblk : wr.heap[g1]? = some (.cells cur1.toArray 49 (0, 0)) := by
              rw [hb3.block g1 hg1w, heap_setCell_other _ _ _ _ (Ne.symm hgg)]
              exact HR1.out
            have hat : ps[i].1.rs[x].At wr g1 (x * 11) := by
              have hr0 : Row wr g1 0 ((ps[i].1.rs.map Rep.cs).flatten) := fun j v hj => by
                rw [Nat.zero_add, blk_cells hblk]
                rw [← HT1.out, List.getElem?_take] at hj
                split at hj
                · exact hj
                · cases hj
              have := hr0.elem (reps_sz _) x (by simpa using hxl)
              rw [List.getElem_map, Nat.zero_add] at this
              exact ⟨this, blk_free hblk⟩
            have he1 : wr.cell? ⟨g, i * 3 + 2, none⟩ = some (.slice (some ⟨g1, 0, none⟩) ps[i].1.rs.length c1) := by
              rw [hb3.cell (p := ⟨g, i * 3 + 2, none⟩) hgw2]
              simp [go_sem, hd1]
            obtain ⟨b0, b1, b2, b3, b4, b5, b6, b7, b8, b9, b10⟩ := hat.cells
            have hg3 : g1 < wr.heap.size := by have := hb3.size; simp [World.setCell] at this; omega
            have hg4 : g < wr.heap.size := by have := hb3.size; simp [World.setCell] at this; omega
            have HBLK := Lib.hid hblk
            have HCS := Lib.hid (fun j v (hj : ps[i].1.rs[x].cs[j]? = some v) => show cur1[x * 11 + j]? = some v by
              have := hat.row j v hj
              rwa [blk_cells hblk] at this)
            have HFIT : Hid (x * 11 + ps[i].1.rs[x].cs.length ≤ cur1.length) := show _ by
              rw [HL1.out]
              have := Nat.mul_le_mul_right 11 (show x + 1 ≤ c1 by omega)
              show x * 11 + 11 ≤ c1 * 11
              omega
            have HB3 := Lib.hid hb3
            clear hblk hat hb3 hd1 hd2 hc1 hc2 hA
            go_wp2_with fail
            go_region_with (go_at_call 38; refine (own38 ps[i].1.rs[x] _).mono ?_; rintro e w5 ⟨rfl, hb5⟩; have hst := run_storeCells_same (P := Try.prog) (off := x * 11) ((hb5.block g1 hg3).trans HBLK.out) HCS.out HFIT.out ps[i].1.rs[x].one; have he5 := (hb5.cell (p := ⟨g, i * 3 + 2, none⟩) hg4).trans he1)
            all_goals
              go_wp2
              go_roundw
              case rel => exact ⟨x + 1, hxl, by go_num, (HB3.out.drew).trans (hb5.mono (by show w2.heap.size ≤ wr.heap.size; have := HB3.out.size; simpa [World.setCell] using this))⟩
              case measure => simp [intOf]; omega
          · go_wp2
            go_roundw
            case rel => exact ⟨i + 1, _, hlt, by go_num, HI2.out.step (hb3.mono (by simp [World.setCell]))⟩
            case measure => simp [intOf]; omega
    · have hie : i = ps.length := by omega
      subst hie
      have hAf := blk_free hI.a
      obtain ⟨x, y, hB⟩ := hI.b
      have hBc := blk_cells (cs := [x, y]) hB
      have hBf := blk_free hB
      go_wp2
      have hD := hI.done
      exact bodyPost_ret (v := .agg #[.int .i64 win, .slice (some ⟨g, 0, none⟩) ps.length c']) (by simp [results, Try.results32, go_sem, hBc]) rfl ⟨_, qs, rfl, (hD.same fun k hk => by
        rw [heap_setCell_other _ _ _ _ (by simp; omega), heap_setCell_other _ _ _ _ (by simp; omega)]).mono (by omega), by have := hI.names; rwa [List.take_length] at this,
        (hI.below.setCell (by simp) _).setCell (by simp) _⟩

/-- replies.copied. -/
theorem copied32 (win : Int) (v : Value) (ps : List (Kep × Value)) (w : World) (hs : CacheAt w v ps) (hn : ps.length ≤ 1000) (hrs : ∀ p ∈ ps, p.1.rs.length ≤ 1000) :
    Calls Try.prog 32 #[.agg #[.int .i64 win, v]] w (Copied w win ps) := by
  by_cases h : ps.length = 0
  · have := List.eq_nil_of_length_eq_zero h
    subst this
    exact copied32_nil win v w hs
  · exact copied32_some win v ps w hs hn h hrs
end Go.Proofs.Ytihfikepfhcboaa
