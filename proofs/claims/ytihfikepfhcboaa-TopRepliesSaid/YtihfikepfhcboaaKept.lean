/- A cache of answers in memory, and the functions that ask whether it is right. Conditions: each stands in its own theorem. -/
import Derived.Test.YtihfikepfhcboaaBsf
import Derived.OneCell
namespace Go.Proofs.Ytihfikepfhcboaa
open Go.RowKit

/-- A client's answers. -/
structure Kep where
  cl : Int
  gone : Int
  rs : List Rep
def KepAt (w : World) (k : Kep) (u : Value) : Prop := SlOf w 11 u k.rs.length (k.rs.map Rep.cs).flatten
def krow (p : Kep × Value) : List Value := [.int .i64 p.1.cl, .int .i64 p.1.gone, p.2]
/-- A cache's clients lie in memory: of each its answers' slice. -/
def CacheAt (w : World) (v : Value) (ps : List (Kep × Value)) : Prop := SlOf w 3 v ps.length (ps.map krow).flatten ∧ ∀ p ∈ ps, KepAt w p.1 p.2
theorem KepAt.below {w w' : World} {k : Kep} {u : Value} (h : KepAt w k u) (hb : Below w.heap.size w w') : KepAt w' k u := SlOf.below h hb
theorem CacheAt.below {w w' : World} {v : Value} {ps : List (Kep × Value)} (h : CacheAt w v ps) (hb : Below w.heap.size w w') : CacheAt w' v ps :=
  ⟨SlOf.below h.1 hb, fun p hp => (h.2 p hp).below hb⟩

theorem SlOf.form {w : World} {sz : Nat} {v : Value} {n : Nat} {xs : List Value} (h : SlOf w sz v n xs) : ∃ a cap, v = .slice a n cap := by
  rcases h with ⟨rfl, rfl, _⟩ | ⟨b, o, cap, rfl, _⟩
  · exact ⟨_, _, rfl⟩
  · exact ⟨_, _, rfl⟩
theorem krow_sz (ps : List (Kep × Value)) : ∀ e ∈ ps.map krow, e.length = 3 := by
  intro e he
  obtain ⟨p, _, rfl⟩ := List.mem_map.1 he
  rfl

/-- The number that stands ahead of the i-th answer. -/
def Kep.last (k : Kep) (i : Nat) : Int := match i with | 0 => k.gone | i + 1 => match k.rs[i]? with | some r => r.xid | none => 0
structure Kep.right (k : Kep) (win : Int) : Prop where
  g0 : 0 ≤ k.gone
  g1 : k.gone ≤ 1000
  c0 : 0 ≤ k.cl
  c1 : k.cl < 16
  len : (k.rs.length : Int) ≤ win
  fits : ∀ r ∈ k.rs, r.fits ∧ r.cl = k.cl
  up : ∀ i (h : i < k.rs.length), k.last i < k.rs[i].xid
structure RightC (win : Int) (ks : List Kep) : Prop where
  w0 : 1 ≤ win
  w1 : win ≤ 100
  each : ∀ k ∈ ks, k.right win
  up : ∀ i j (hi : i < j) (hj : j < ks.length), ks[i].cl < ks[j].cl

theorem Kep.right.last_pos {k : Kep} {win : Int} (h : k.right win) (i : Nat) (hi : i ≤ k.rs.length) : 0 ≤ k.last i := by
  induction i with
  | zero => exact h.g0
  | succ i ih =>
    have h1 := h.up i (by omega)
    have h2 := ih (by omega)
    simp only [Kep.last, List.getElem?_eq_getElem (show i < k.rs.length by omega)]
    omega
theorem Kep.right.xid_pos {k : Kep} {win : Int} (h : k.right win) (i : Nat) (hi : i < k.rs.length) : 1 ≤ k.rs[i].xid := by
  have := h.up i hi; have := h.last_pos i (by omega); omega

theorem hrr31 (cl xid hid hgen size : Int) (W : World) (hh : hid = 0 ∧ hgen = 0 ∨ hid = 2 ∧ hgen = 1) (h0 : 0 ≤ cl) (hc : cl < 16) (hx : 1 ≤ xid) (hx' : xid ≤ 1000) (hs : 0 ≤ size) (hs' : size ≤ 1000) :
    Calls Try.prog 31 #[.agg #[.int .i64 cl, .int .i64 xid, .int .i64 0, .int .i64 hid, .int .i64 hgen, .bool false, .int .i64 size, .slice none 0 0, .slice none 0 0, .bool false, .int .i64 0]] W fun e w' => e = .returned (.bool true) ∧ Below W.heap.size W w' :=
  rr31 ⟨cl, xid, hid, hgen, size⟩ W ⟨hh, h0, Int.le_of_lt hc, Int.le_trans (by decide) hx, hx', hs, hs'⟩ hc hx

theorem wrong78' (cl xid hid hgen size before : Int) (L K : Nat) (w : World) (hh : hid = 0 ∧ hgen = 0 ∨ hid = 2 ∧ hgen = 1) (h0 : 0 ≤ cl) (hc : cl < 16) (hx : 1 ≤ xid) (hx' : xid ≤ 1000) (hs : 0 ≤ size) (hs' : size ≤ 1000)
    (hL : w.heap[L]? = some (.cells #[.int .i64 before] 3 (0, 0))) (hK : w.cell? ⟨K, 0, none⟩ = some (.int .i64 cl)) (hKL : K < L) (hbf : before < xid) :
    Calls Try.prog 78 #[.agg #[.int .i64 cl, .int .i64 xid, .int .i64 0, .int .i64 hid, .int .i64 hgen, .bool false, .int .i64 size, .slice none 0 0, .slice none 0 0, .bool false, .int .i64 0], .pointer (some ⟨L, 0, none⟩), .pointer (some ⟨K, 0, none⟩)] w fun e w' =>
      e = .returned (.bool false) ∧ w'.heap[L]? = some (.cells #[.int .i64 xid] 3 (0, 0)) ∧ Below L w w' := by
  have hLw : L < w.heap.size := (Array.getElem?_eq_some_iff.1 hL).1
  have c1 := cell_of_one hL
  have c2 := free_of_one hL
  have hne : ¬ L = K := by omega
  have hne' : ¬ K = L := by omega
  have hKw : K < w.heap.size := by omega
  have hLL := Lib.hid hL
  have HH := Lib.hid hh
  clear hL hh
  go_enter Try.func78, Try.ntmps78
  go_wp2_with (go_at_call 31; refine (hrr31 _ _ _ _ _ _ HH.out h0 hc hx hx' hs hs').mono ?_; rintro e w' ⟨rfl, hb⟩)
  go_ret
  refine ⟨by simp; omega, ?_, ?_⟩
  · rw [hb.block L (by simp; omega)]
    rw [Below.heap_alloc _ _ _ (show L < (w.setCell ⟨L, 0, none⟩ _).heap.size by simpa using hLw)]
    exact one_setCell hLL.out
  · exact (((Below.refl _ _).setCell (Nat.le_refl _) _).alloc (by simp; omega) _).trans (hb.mono (by simp; omega))

/-- kept's function, at an answer that is right: it is not wrong, and its number is the last one. -/
theorem wrong78 (r : Rep) (before : Int) (L K : Nat) (w : World) (hr : r.fits) (hc : r.cl < 16) (hx : 1 ≤ r.xid) (hL : w.heap[L]? = some (.cells #[.int .i64 before] 3 (0, 0))) (hK : w.cell? ⟨K, 0, none⟩ = some (.int .i64 r.cl)) (hKL : K < L) (hbf : before < r.xid) :
    Calls Try.prog 78 #[.agg r.cs.toArray, .pointer (some ⟨L, 0, none⟩), .pointer (some ⟨K, 0, none⟩)] w fun e w' =>
      e = .returned (.bool false) ∧ w'.heap[L]? = some (.cells #[.int .i64 r.xid] 3 (0, 0)) ∧ Below L w w' :=
  wrong78' r.cl r.xid r.hid r.hgen r.size before L K w hr.h hr.cl0 hc hx hr.xid1 hr.s0 hr.s1 hL hK hKL hbf

theorem reps_sz (rs : List Rep) : ∀ e ∈ rs.map Rep.cs, e.length = 11 := by simp [Rep.cs]
theorem reps_one (rs : List Rep) : ∀ u ∈ (rs.map Rep.cs).flatten, u.oneCell' = true := by
  intro u hu
  simp only [List.mem_flatten, List.mem_map] at hu
  obtain ⟨l, ⟨r, _, rfl⟩, hl⟩ := hu
  exact r.one u hl

set_option maxRecDepth 100000 in
set_option maxHeartbeats 800000 in
theorem index100 (k : Kep) (win : Int) (v : Value) (L K : Nat) (w : World) (hs : KepAt w k v) (hk : k.right win) (hn : k.rs.length ≤ 1000)
    (hL : w.heap[L]? = some (.cells #[.int .i64 k.gone] 3 (0, 0))) (hK : w.cell? ⟨K, 0, none⟩ = some (.int .i64 k.cl)) (hKL : K < L) (hbL : ∀ b, v.ownBlock = some b → b < L) :
    Calls Try.prog 100 #[v, .func (.func 78) #[] #[.pointer (some ⟨L, 0, none⟩), .pointer (some ⟨K, 0, none⟩)]] w fun e w' => e = .returned (.int .i64 (-1)) ∧ Below L w w' := by
  rcases hs with ⟨rfl, h0, _⟩ | ⟨b, o, cap, rfl, h2, h3, h4, h5, h6⟩
  · clear hL hK
    go_enter Try.func100, Try.ntmps100
    go_wp2
    go_loop [8] (fun i => i = .int .i64 0) (fun _ => 0)
    case atStart => rfl
    case round =>
      subst hrel
      go_wp2
      go_ret
      exact ⟨rfl, Below.refl _ _⟩
  · have hbL' : b < L := hbL b rfl
    have h5' := Lib.hid h5
    have hLL := Lib.hid hL
    have hKK := Lib.hid hK
    clear h5 hbL hL hK
    go_enter Try.func100, Try.ntmps100
    go_wp2
    go_loopw [8] (fun vi wr => ∃ i : Nat, i ≤ k.rs.length ∧ vi = .int .i64 i ∧ Below L w wr ∧ Hid (wr.heap[L]? = some (.cells #[.int .i64 (k.last i)] 3 (0, 0)))) (fun vi _ => (k.rs.length - intOf vi).toNat)
    case atStart => exact ⟨0, Nat.zero_le _, rfl, Below.refl _ _, hLL⟩
    case round =>
      obtain ⟨i, hi, rfl, hb, hlast⟩ := hrel
      by_cases hlt : i < k.rs.length
      · have hrow : Row wr b (o + i * 11) k.rs[i].cs := by
          have := (h6.below hb hbL').elem (reps_sz _) i (by simpa using hlt)
          rwa [List.getElem_map] at this
        have hmem := List.getElem_mem hlt
        have hw := wrong78 k.rs[i] (k.last i) L K wr (hk.fits _ hmem).1 (by rw [(hk.fits _ hmem).2]; exact hk.c1) (hk.xid_pos i hlt) hlast.out (by rw [(hk.fits _ hmem).2, hb.cell (p := ⟨K, 0, none⟩) hKL]; exact hKK.out) hKL (hk.up i hlt)
        have HW := Lib.hid hw
        clear hw
        go_wp2_with (first
          | ((with_reducible refine wpList_dst 15 ?_); refine wpList_loadRow 49 (.tmp 14) rfl rfl rfl hrow Try.agg49 (fun w => Try.size49 w) ?_)
          | (go_at_call 78; refine HW.out.mono ?_; rintro e w' ⟨rfl, hl', hb'⟩; have HL2 := Lib.hid hl'; clear hl'))
        go_roundw
        case rel => exact ⟨i + 1, hlt, by go_num, hb.trans hb', show _ = _ by rw [HL2.out]; simp [Kep.last, hlt]⟩
        case measure => simp [intOf]; omega
      · go_wp2
        go_ret
        exact ⟨rfl, hb⟩
end Go.Proofs.Ytihfikepfhcboaa
