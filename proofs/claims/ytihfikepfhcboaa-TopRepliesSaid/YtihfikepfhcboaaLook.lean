/- replies.kept, Right, of, Look at a cache that is right. Conditions: each stands in its own theorem. -/
import Derived.Test.YtihfikepfhcboaaKept
namespace Go.Proofs.Ytihfikepfhcboaa
open Go.RowKit

theorem SlOf.lt {w : World} {sz : Nat} {v : Value} {n : Nat} {xs : List Value} (h : SlOf w sz v n xs) : ∀ b, v.ownBlock = some b → b < w.heap.size := by
  intro b hb
  rcases h with ⟨rfl, _⟩ | ⟨b', o, cap, rfl, h2, h3, h4, h5, h6⟩
  · cases hb
  · cases hb; exact h4

theorem contains79 (k : Kep) (win : Int) (v : Value) (L K : Nat) (w : World) (hs : KepAt w k v) (hk : k.right win) (hn : k.rs.length ≤ 1000)
    (hL : w.heap[L]? = some (.cells #[.int .i64 k.gone] 3 (0, 0))) (hK : w.cell? ⟨K, 0, none⟩ = some (.int .i64 k.cl)) (hKL : K < L) (hbL : ∀ b, v.ownBlock = some b → b < L) :
    Calls Try.prog 79 #[v, .func (.func 78) #[] #[.pointer (some ⟨L, 0, none⟩), .pointer (some ⟨K, 0, none⟩)]] w fun e w' => e = .returned (.bool false) ∧ Below L w w' := by
  have H := Lib.hid (index100 k win v L K w hs hk hn hL hK hKL hbL)
  clear hs hk hn hL hK hbL
  go_enter Try.func79, Try.ntmps79
  go_wp2_with (go_at_call 100; refine H.out.mono ?_; rintro e w' ⟨rfl, hb⟩)
  go_ret
  exact ⟨rfl, hb⟩

set_option maxHeartbeats 800000 in
theorem kept40' (cl gone win : Int) (v : Value) (n : Nat) (w : World) (hn : (n : Int) ≤ win) (g0 : 0 ≤ gone) (g1 : gone ≤ 1000) (hv : v = .slice none 0 0 ∧ n = 0 ∨ ∃ b o cap, v = .slice (some ⟨b, o, none⟩) n cap)
    (hcon : ∀ W : World, (∃ o1, W = (w.alloc o1).alloc (.cells #[.int .i64 gone] 3)) → W.cell? ⟨w.heap.size, 0, none⟩ = some (.int .i64 cl) →
      Calls Try.prog 79 #[v, .func (.func 78) #[] #[.pointer (some ⟨w.heap.size + 1, 0, none⟩), .pointer (some ⟨w.heap.size, 0, none⟩)]] W fun e w' => e = .returned (.bool false) ∧ Below (w.heap.size + 1) W w') :
    Calls Try.prog 40 #[.agg #[.int .i64 cl, .int .i64 gone, v], .int .i64 win] w fun e w' => e = .returned (.bool true) ∧ Below w.heap.size w w' := by
  have HC := Lib.hid hcon
  clear hcon
  rcases hv with ⟨rfl, rfl⟩ | ⟨b, o, cap, rfl⟩
  all_goals
    go_enter Try.func40, Try.ntmps40
    go_wp2_with (go_at_call 79; refine (HC.out _ ⟨_, rfl⟩ (by simp [go_sem])).mono ?_; rintro e w' ⟨rfl, hb⟩)
    go_ret
    exact ⟨rfl, (((Below.refl _ _).alloc (Nat.le_refl _) _).alloc (by simp) _).trans (hb.mono (by omega))⟩

/-- replies.kept of a client's right answers. -/
theorem kept40 (k : Kep) (win : Int) (v : Value) (w : World) (hs : KepAt w k v) (hk : k.right win) (hw1 : win ≤ 100) :
    Calls Try.prog 40 #[.agg (krow (k, v)).toArray, .int .i64 win] w fun e w' => e = .returned (.bool true) ∧ Below w.heap.size w w' := by
  refine kept40' k.cl k.gone win v k.rs.length w hk.len hk.g0 hk.g1 ?_ ?_
  · rcases hs with ⟨h1, h2, _⟩ | ⟨b, o, cap, h1, _⟩
    · exact .inl ⟨h1, h2⟩
    · exact .inr ⟨b, o, cap, h1⟩
  · rintro W ⟨o1, rfl⟩ hc
    have hb : Below w.heap.size w ((w.alloc o1).alloc (.cells #[.int .i64 k.gone] 3)) := ((Below.refl _ _).alloc (Nat.le_refl _) _).alloc (by simp) _
    refine contains79 k win v (w.heap.size + 1) w.heap.size _ (hs.below hb) hk (by have := hk.len; omega) ?_ hc (by omega) (fun b hb' => by have := SlOf.lt hs b hb'; omega)
    have := heap_alloc_new (w.alloc o1) (.cells #[.int .i64 k.gone] 3)
    simpa using this

/-- The client that stands ahead of the i-th. -/
def lastCl (ps : List (Kep × Value)) (i : Nat) : Int := match i with | 0 => -1 | i + 1 => match ps[i]? with | some p => p.1.cl | none => 0

set_option maxRecDepth 100000 in
set_option maxHeartbeats 1600000 in
/-- replies.Right of a right cache. -/
theorem right12 (win : Int) (v : Value) (ps : List (Kep × Value)) (w : World) (hs : CacheAt w v ps) (hr : RightC win (ps.map (·.1))) (hn : ps.length ≤ 1000) :
    Calls Try.prog 12 #[.agg #[.int .i64 win, v]] w fun e w' => e = .returned (.bool true) ∧ Below w.heap.size w w' := by
  obtain ⟨w0, w1, each, up⟩ := hr
  have EACH := Lib.hid each
  have UP := Lib.hid up
  have KEP := Lib.hid hs.2
  have hs1 := hs.1
  clear each up hs
  rcases hs1 with ⟨rfl, h0, _⟩ | ⟨b, o, cap, rfl, h2, h3, h4, h5, h6⟩
  · clear hn h0
    go_enter Try.func12, Try.ntmps12
    go_wp2
    go_loop [9] (fun i => i = .int .i64 0) (fun _ => 0)
    case atStart => rfl
    case round =>
      subst hrel
      go_wp2
      go_ret
      exact ⟨by simp, (Below.refl _ _).alloc (Nat.le_refl _) _⟩
  · have h5' := Lib.hid h5
    clear h5
    go_enter Try.func12, Try.ntmps12
    go_wp2
    go_loopw [3, 9] (fun vl vi wr => ∃ i : Nat, i ≤ ps.length ∧ vi = .int .i64 i ∧ vl = .int .i64 (lastCl ps i) ∧ Below (w.heap.size + 1) (w.alloc (.cells #[.int .i64 win, .slice (some ⟨b, o, none⟩) ps.length cap] 39)) wr) (fun _ vi _ => (ps.length - intOf vi).toNat)
    case atStart => exact ⟨0, Nat.zero_le _, rfl, rfl, Below.refl _ _⟩
    case round =>
      obtain ⟨i, hi, rfl, rfl, hb⟩ := hrel
      have hbw : Below w.heap.size w wr := ((Below.refl _ _).alloc (Nat.le_refl _) _).trans (hb.mono (by omega))
      have hbig : w.heap.size < wr.heap.size := by have := hb.size; simp at this; omega
      have c0 : wr.cell? ⟨w.heap.size, 0, none⟩ = some (.int .i64 win) := by rw [hb.cell (p := ⟨w.heap.size, 0, none⟩) (by simp)]; simp [go_sem]
      by_cases hlt : i < ps.length
      · have hmem := List.getElem_mem hlt
        have hk := EACH.out ps[i].1 (List.mem_map.2 ⟨_, hmem, rfl⟩)
        have hkw := (KEP.out _ hmem).below hbw
        obtain ⟨a, cap', hu⟩ := SlOf.form hkw
        have hrow : Row wr b (o + i * 3) [.int .i64 ps[i].1.cl, .int .i64 ps[i].1.gone, .slice a ps[i].1.rs.length cap'] := by
          have := (h6.below hbw h4).elem (krow_sz _) i (by simpa using hlt)
          rw [List.getElem_map, krow, hu] at this
          exact this
        have hlast : lastCl ps i < ps[i].1.cl := by
          cases i with
          | zero => have := hk.c0; simp only [lastCl]; omega
          | succ i =>
            have := UP.out i (i + 1) (by omega) (by simpa using hlt)
            simp only [lastCl, List.getElem?_eq_getElem (show i < ps.length by omega)]
            simpa using this
        have hc1 := hk.c1
        have hkept := fun W (h : KepAt W ps[i].1 ps[i].2) => kept40 ps[i].1 win ps[i].2 W h hk w1
        rw [hu] at hkept hkw
        have hK := Lib.hid hkept
        have hkw := Lib.hid hkw
        have hnext : lastCl ps (i + 1) = ps[i].1.cl := by simp [lastCl, hlt]
        have hN := Lib.hid hnext
        have hlt' : ps[i].1.cl < 16 := hc1
        clear hk hu hkept hmem hnext hc1
        go_wp2_with (first
          | ((with_reducible refine wpList_dst 12 ?_); refine wpList_loadRow 106 (.tmp 11) rfl rfl rfl hrow Try.agg106 (fun w => Try.size106 w) ?_)
          | (go_at_call 40; refine (hK.out _ (hkw.out.below ((Below.refl _ _).alloc (Nat.le_refl _) _))).mono ?_; rintro e w' ⟨rfl, hb'⟩; have c5 : w'.cell? ⟨wr.heap.size, 0, none⟩ = some (.int .i64 ps[i].1.cl) := by rw [hb'.cell (p := ⟨wr.heap.size, 0, none⟩) (by simp)]; simp [go_sem]))
        go_roundw
        case rel => exact ⟨i + 1, hlt, by go_num, by rw [hN.out], (hb.alloc (by omega) _).trans (hb'.mono (by simp; omega))⟩
        case measure => simp [intOf]; omega
      · go_wp2
        go_ret
        exact ⟨by simp, hbw⟩
end Go.Proofs.Ytihfikepfhcboaa
