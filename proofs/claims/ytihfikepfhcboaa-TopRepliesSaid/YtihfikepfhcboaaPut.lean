/- replies.Put where it refuses. Conditions: each stands in its own theorem. -/
import Derived.Test.YtihfikepfhcboaaPutInv
namespace Go.Proofs.Ytihfikepfhcboaa
open Go.RowKit

/-- Put's first three variables: the cache, the answer, the result. -/
structure PutVars (w : World) (win : Int) (v : Value) (r : Rep) (W : World) : Prop where
  a : W.heap[w.heap.size]? = some (.cells #[.int .i64 win, v] 39 (0, 0))
  b : W.heap[w.heap.size + 1]? = some (.cells #[.int .i64 r.cl, .int .i64 r.xid, .int .i64 0, .int .i64 r.hid, .int .i64 r.hgen, .bool false, .int .i64 r.size, .slice none 0 0, .slice none 0 0, .bool false, .int .i64 0] 49 (0, 0))
  c : ∃ x y, W.heap[w.heap.size + 2]? = some (.cells #[x, y] 39 (0, 0))
  below : Below w.heap.size w W
  lt : w.heap.size + 2 < W.heap.size
theorem PutVars.start (w : World) (win : Int) (v : Value) (r : Rep) (x y : Value) :
    PutVars w win v r (((w.alloc (.cells #[.int .i64 win, v] 39)).alloc (.cells #[.int .i64 r.cl, .int .i64 r.xid, .int .i64 0, .int .i64 r.hid, .int .i64 r.hgen, .bool false, .int .i64 r.size, .slice none 0 0, .slice none 0 0, .bool false, .int .i64 0] 49)).alloc (.cells #[x, y] 39)) := by
  refine ⟨?_, ?_, ⟨x, y, ?_⟩, (((Below.refl w.heap.size w).alloc (Nat.le_refl _) _).alloc (by simp) _).alloc (by simp; omega) _, by simp⟩
  · rw [Below.heap_alloc _ _ _ (by simp; omega)]; exact heap_alloc2_old w _ _
  · rw [Below.heap_alloc _ _ _ (by simp)]; exact heap_alloc2_new w _ _
  · have := heap_alloc_new ((w.alloc (.cells #[.int .i64 win, v] 39)).alloc (.cells #[.int .i64 r.cl, .int .i64 r.xid, .int .i64 0, .int .i64 r.hid, .int .i64 r.hgen, .bool false, .int .i64 r.size, .slice none 0 0, .slice none 0 0, .bool false, .int .i64 0] 49)) (.cells #[x, y] 39)
    simpa using this
theorem PutVars.step {w : World} {win : Int} {v : Value} {r : Rep} {W W' : World} (h : PutVars w win v r W) (hb : Below W.heap.size W W') : PutVars w win v r W' := by
  have hl := h.lt
  refine ⟨by rw [hb.block _ (by omega)]; exact h.a, by rw [hb.block _ (by omega)]; exact h.b, by rw [hb.block _ (by omega)]; exact h.c, h.below.trans (hb.mono (by omega)), Nat.lt_of_lt_of_le h.lt hb.size⟩
theorem PutVars.cells {w : World} {win : Int} {v : Value} {r : Rep} {W : World} (h : PutVars w win v r W) : (∀ j, W.cell? ⟨w.heap.size, j, none⟩ = [.int .i64 win, v][j]?) ∧
    (∀ j, W.cell? ⟨w.heap.size + 1, j, none⟩ = [.int .i64 r.cl, .int .i64 r.xid, .int .i64 0, .int .i64 r.hid, .int .i64 r.hgen, .bool false, .int .i64 r.size, .slice none 0 0, .slice none 0 0, .bool false, .int .i64 0][j]?) :=
  ⟨blk_cells (cs := [_, _]) h.a, blk_cells (cs := [_, _, _, _, _, _, _, _, _, _, _]) h.b⟩
theorem PutVars.res {w : World} {win : Int} {v : Value} {r : Rep} {W : World} (h : PutVars w win v r W) : ∃ x y, (∀ j, W.cell? ⟨w.heap.size + 2, j, none⟩ = [x, y][j]?) ∧ (∀ j, W.frozen? ⟨w.heap.size + 2, j, none⟩ = false) := by
  obtain ⟨x, y, hc⟩ := h.c
  exact ⟨x, y, blk_cells (cs := [_, _]) hc, blk_free hc⟩

/-- Put has refused: the cache is as it was, in memory of its own. -/
def Refused (w : World) (win : Int) (ps : List (Kep × Value)) (e : Ending) (w' : World) : Prop :=
  ∃ v' qs, e = .returned (.tuple #[.agg #[.int .i64 win, v'], .int .i64 2]) ∧ OwnCache w' w.heap.size v' qs ∧ qs.map (·.1) = ps.map (·.1) ∧ Below w.heap.size w w'

theorem RightC.lens {win : Int} {ps : List (Kep × Value)} (h : RightC win (ps.map (·.1))) : ∀ p ∈ ps, p.1.rs.length ≤ 1000 := fun p hp => by
  have h1 := (h.each p.1 (List.mem_map.2 ⟨p, hp, rfl⟩)).len
  have h2 := h.w1
  omega

theorem OwnCache.same2 {w w' : World} {B : Nat} {v : Value} {qs : List (Kep × Value)} (h : OwnCache w B v qs) (hs : ∀ k, B ≤ k → k < w.heap.size → w'.heap[k]? = w.heap[k]?) : OwnCache w' B v qs :=
  ⟨ownsRow_same h.row fun k hk => hs k (h.row.lt k hk).1 (h.row.lt k hk).2, fun p hp => ownsRow_same (h.each p hp) fun k hk => hs k ((h.each p hp).lt k hk).1 ((h.each p hp).lt k hk).2, h.apart, h.off⟩

set_option maxRecDepth 100000 in
set_option maxHeartbeats 1600000 in
theorem put10_wrong (win : Int) (v : Value) (ps : List (Kep × Value)) (r : Rep) (w : World) (hs : CacheAt w v ps) (hr : RightC win (ps.map (·.1))) (hn : ps.length ≤ 1000) (hf : r.fits) (hw : ¬ (r.cl < 16 ∧ 1 ≤ r.xid)) :
    Calls Try.prog 10 #[.agg #[.int .i64 win, v], .agg #[.int .i64 r.cl, .int .i64 r.xid, .int .i64 0, .int .i64 r.hid, .int .i64 r.hgen, .bool false, .int .i64 r.size, .slice none 0 0, .slice none 0 0, .bool false, .int .i64 0]] w (Refused w win ps) := by
  have H32 := Lib.hid (fun W (hb : Below w.heap.size w W) => copied32 win v ps W (hs.below hb) hn hr.lens)
  have H12 := Lib.hid (fun W (hb : Below w.heap.size w W) => right12 win v ps W (hs.below hb) hr hn)
  have H31 := Lib.hid (fun W => rr31f r W hf hw)
  obtain ⟨a, cap, rfl⟩ := SlOf.form hs.1
  clear hs hw
  go_enter Try.func10, Try.ntmps10
  go_wp2_with (first
    | (go_at_call 32; refine (H32.out _ (PutVars.start w win _ r _ _).below).mono ?_; rintro e w1 ⟨v', qs, rfl, hoc, hqs, hb⟩; have hv1 := (PutVars.start w win _ r _ _).step hb; obtain ⟨a', c', rfl⟩ := SlOf.form (SlOf.owns hoc.row); have HOC := Lib.hid hoc; clear hoc; have hv2 := hv1.step ((Below.refl w1.heap.size w1).alloc (Nat.le_refl _) (.cells #[.int .i64 win, .slice a' qs.length c'] 39)); obtain ⟨hcA, hcB⟩ := hv2.cells)
    | (go_at_call 12; refine (H12.out _ hv2.below).mono ?_; rintro e w3 ⟨rfl, hb3⟩; have hv3 := hv2.step hb3; obtain ⟨hcA3, hcB3⟩ := hv3.cells)
    | (go_at_call 31; refine (H31.out _).mono ?_; rintro e w4 ⟨rfl, hb4⟩; have hv4 := hv3.step hb4; obtain ⟨x4, y4, hcC, hfC⟩ := hv4.res; have hM := blk_cells (cs := [_, _]) (((hb3.trans (hb4.mono hb3.size)).block w1.heap.size (by simp)).trans (heap_alloc_new w1 _))))
  have hb1 : w1.heap.size ≤ (w1.alloc (.cells #[.int .i64 win, .slice a' qs.length c'] 39)).heap.size := by simp
  have hbl : Below w1.heap.size w1 w4 := ((Below.refl w1.heap.size w1).alloc (Nat.le_refl _) _).trans ((hb3.mono hb1).trans (hb4.mono (Nat.le_trans hb1 hb3.size)))
  exact bodyPost_ret (v := .tuple #[.agg #[.int .i64 win, .slice a' qs.length c'], .int .i64 2]) (by simp [results, Try.results10, go_sem, hcC]) rfl ⟨_, qs, rfl, (OwnCache.same2 HOC.out fun k hk hk' => by
      have hk2 : w.heap.size + 2 < k := by simp at hk; omega
      rw [heap_setCell_other _ _ _ _ (by simp; omega), heap_setCell_other _ _ _ _ (by simp; omega)]
      exact hbl.block k hk').mono (by simp; omega), hqs, (hv4.below.setCell (by simp; omega) _).setCell (by simp; omega) _⟩

set_option maxRecDepth 100000 in
set_option maxHeartbeats 1600000 in
theorem put10_known (win : Int) (v : Value) (ps : List (Kep × Value)) (r : Rep) (w : World) (hs : CacheAt w v ps) (hr : RightC win (ps.map (·.1))) (hn : ps.length ≤ 1000) (hf : r.fits) (hw : r.cl < 16) (hx : 1 ≤ r.xid) (hk : (look (ps.map (·.1)) r.cl r.xid).2 ≠ 0) :
    Calls Try.prog 10 #[.agg #[.int .i64 win, v], .agg #[.int .i64 r.cl, .int .i64 r.xid, .int .i64 0, .int .i64 r.hid, .int .i64 r.hgen, .bool false, .int .i64 r.size, .slice none 0 0, .slice none 0 0, .bool false, .int .i64 0]] w (Refused w win ps) := by
  have H32 := Lib.hid (fun W (hb : Below w.heap.size w W) => copied32 win v ps W (hs.below hb) hn hr.lens)
  have H12 := Lib.hid (fun W (hb : Below w.heap.size w W) => right12 win v ps W (hs.below hb) hr hn)
  have H31 := Lib.hid (fun W => rr31 r W hf hw hx)
  have H11 := Lib.hid (fun W (hb : Below w.heap.size w W) => look11 win r.cl r.xid v ps W (hs.below hb) hr hn hf.cl0 (by omega))
  generalize look (ps.map (·.1)) r.cl r.xid = L at hk H11
  obtain ⟨rep, code⟩ := L
  have hcode : ¬ code = 0 := hk
  obtain ⟨a, cap, rfl⟩ := SlOf.form hs.1
  clear hs hk
  go_enter Try.func10, Try.ntmps10
  go_wp2_with (first
    | (go_at_call 32; refine (H32.out _ (PutVars.start w win _ r _ _).below).mono ?_; rintro e w1 ⟨v', qs, rfl, hoc, hqs, hb⟩; have hv1 := (PutVars.start w win _ r _ _).step hb; obtain ⟨a', c', rfl⟩ := SlOf.form (SlOf.owns hoc.row); have HOC := Lib.hid hoc; clear hoc; have hv2 := hv1.step ((Below.refl w1.heap.size w1).alloc (Nat.le_refl _) (.cells #[.int .i64 win, .slice a' qs.length c'] 39)); obtain ⟨hcA, hcB⟩ := hv2.cells)
    | (go_at_call 12; refine (H12.out _ hv2.below).mono ?_; rintro e w3 ⟨rfl, hb3⟩; have hv3 := hv2.step hb3; obtain ⟨hcA3, hcB3⟩ := hv3.cells)
    | (go_at_call 31; refine (H31.out _).mono ?_; rintro e w4 ⟨rfl, hb4⟩; have hv4 := hv3.step hb4; obtain ⟨hcA4, hcB4⟩ := hv4.cells)
    | (go_at_call 11; refine (H11.out _ hv4.below).mono ?_; rintro e w5 ⟨rfl, hb5⟩; have hv5 := hv4.step hb5)
    | ((with_reducible refine wpList_at_store 49 (.tmp 7) (.tmp 32) ?_); go_loud (refine wpList_storeAll (cs := rep.cs) 49 (.tmp 7) (.tmp 32) rfl rfl rfl rfl (heap_alloc_new w5 _) Try.size49 rfl rep.one ?_; intro w6 hW; have hb6 := ((Below.refl w5.heap.size w5).alloc (Nat.le_refl _) _).trans (hW.below (Nat.le_refl _)); clear hW; have hv6 := hv5.step hb6; obtain ⟨x4, y4, hcC, hfC⟩ := hv6.res; have hM := blk_cells (cs := [_, _]) ((((hb3.trans (hb4.mono hb3.size)).trans ((hb5.trans (hb6.mono hb5.size)).mono (Nat.le_trans hb3.size hb4.size))).block w1.heap.size (by simp)).trans (heap_alloc_new w1 _)))))
  have hb1 : w1.heap.size ≤ (w1.alloc (.cells #[.int .i64 win, .slice a' qs.length c'] 39)).heap.size := by simp
  have hbl : Below w1.heap.size w1 w6 := ((Below.refl w1.heap.size w1).alloc (Nat.le_refl _) _).trans (((hb3.trans (hb4.mono hb3.size)).trans ((hb5.trans (hb6.mono hb5.size)).mono (Nat.le_trans hb3.size hb4.size))).mono hb1)
  exact bodyPost_ret (v := .tuple #[.agg #[.int .i64 win, .slice a' qs.length c'], .int .i64 2]) (by simp [results, Try.results10, go_sem, hcC]) rfl ⟨_, qs, rfl, (OwnCache.same2 HOC.out fun k hk hk' => by
      have hk2 : w.heap.size + 2 < k := by simp at hk; omega
      rw [heap_setCell_other _ _ _ _ (by simp; omega), heap_setCell_other _ _ _ _ (by simp; omega)]
      exact hbl.block k hk').mono (by simp; omega), hqs, (hv6.below.setCell (by simp; omega) _).setCell (by simp; omega) _⟩
end Go.Proofs.Ytihfikepfhcboaa
