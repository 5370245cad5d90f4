/- slices.BinarySearchFunc at the two element types that TopReplies reaches. Conditions: each stands in its own theorem. -/
import Derived.Test.YtihfikepfhcboaaLeaf
namespace Go.Proofs.Ytihfikepfhcboaa
open Go.RowKit

/-- Below i all keys are below t, from j on none is. -/
def Parted (key : Nat → Int) (t : Int) (n i j : Nat) : Prop := i ≤ j ∧ j ≤ n ∧ (∀ q, q < i → key q < t) ∧ (∀ q, j ≤ q → q < n → t ≤ key q)
/-- The place of t among rising keys, and whether it is there. -/
def PlaceOf (w : World) (key : Nat → Int) (t : Int) (n : Nat) (e : Ending) (w' : World) : Prop :=
  ∃ (p : Nat) (f : Bool), e = .returned (.tuple #[.int .i64 p, .bool f]) ∧ Parted key t n p p ∧ (f = true ↔ p < n ∧ key p = t) ∧ Below w.heap.size w w'
def Rising (key : Nat → Int) (n : Nat) : Prop := ∀ i j, i < j → j < n → key i < key j
/-- What a comparing function answers. -/
def Sided (k t : Int) (W : World) (e : Ending) (w' : World) : Prop := ∃ c : Int, e = .returned (.int .i64 c) ∧ (c < 0 ↔ k < t) ∧ (c = 0 ↔ k = t) ∧ Below W.heap.size W w'

theorem Parted.start (key : Nat → Int) (t : Int) (n : Nat) : Parted key t n 0 n := ⟨Nat.zero_le _, Nat.le_refl _, fun q h => absurd h (by omega), fun q h h' => absurd h (by omega)⟩
theorem Parted.up {key : Nat → Int} {t : Int} {n i j m : Nat} (h : Parted key t n i j) (hr : Rising key n) (h2 : m < j) (hk : key m < t) : Parted key t n (m + 1) j := by
  refine ⟨h2, h.2.1, fun q hq => ?_, h.2.2.2⟩
  by_cases e : q = m
  · rw [e]; exact hk
  · have := hr q m (by omega) (by have := h.2.1; omega); omega
theorem Parted.down {key : Nat → Int} {t : Int} {n i j m : Nat} (h : Parted key t n i j) (hr : Rising key n) (h1 : i ≤ m) (h2 : m < j) (hk : ¬ key m < t) : Parted key t n i m := by
  refine ⟨h1, by have := h.2.1; omega, h.2.2.1, fun q hq hn => ?_⟩
  by_cases e : q = m
  · rw [e]; omega
  · have := hr m q (by omega) hn; omega

set_option maxRecDepth 100000 in
set_option maxHeartbeats 1600000 in
theorem bsf35 (es : List (List Value)) (key : Nat → Int) (v : Value) (t : Int) (w : World)
    (hs : SlOf w 11 v es.length es.flatten) (hsz : ∀ e ∈ es, e.length = 11) (hn : es.length ≤ 1000) (hmono : Rising key es.length)
    (hcmp : ∀ i (h : i < es.length) (W : World), Calls Try.prog 36 #[.agg es[i].toArray, .int .i64 t] W (Sided (key i) t W)) :
    Calls Try.prog 35 #[v, .int .i64 t, .func (.func 36) #[] #[]] w (PlaceOf w key t es.length) := by
  have HC := Lib.hid hcmp
  clear hcmp
  rcases hs with ⟨rfl, h0, _⟩ | ⟨b, o, cap, rfl, h2, h3, h4, h5, h6⟩
  · rw [h0]
    clear HC
    go_enter Try.func35, Try.ntmps35
    go_wp2
    go_loop [9, 10] (fun i j => i = .int .i64 0 ∧ j = .int .i64 0) (fun _ _ => 0)
    case atStart => exact ⟨rfl, rfl⟩
    case round =>
      obtain ⟨rfl, rfl⟩ := hrel
      go_wp2
      go_ret2
      exact ⟨0, false, rfl, Parted.start key t 0, by simp, Below.refl _ _⟩
  · have h5' := Lib.hid h5
    clear h5
    go_enter Try.func35, Try.ntmps35
    go_wp2
    go_loopw [9, 10] (fun vi vj wr => ∃ i j : Nat, Parted key t es.length i j ∧ vi = .int .i64 i ∧ vj = .int .i64 j ∧ Below w.heap.size w wr) (fun vi vj _ => (intOf vj - intOf vi).toNat)
    case atStart => exact ⟨0, es.length, Parted.start key t _, rfl, rfl, Below.refl _ _⟩
    case round =>
      obtain ⟨i, j, hp, rfl, rfl, hb⟩ := hrel
      have hij : i ≤ j := hp.1
      have hjn : j ≤ es.length := hp.2.1
      by_cases hlt : i < j
      · have hm : (i + j) / 2 < es.length := by omega
        have hrow : Row wr b (o + (i + j) / 2 * 11) es[(i + j) / 2] := (h6.below hb h4).elem hsz _ hm
        have hz : ∀ w, (sizeOf 49).run Try.prog w = .ok es[(i + j) / 2].length w := fun w => by rw [hsz _ (List.getElem_mem hm)]; exact Try.size49 w
        have hcm := HC.out _ hm wr
        by_cases hk : key ((i + j) / 2) < t
        · have hup := hp.up hmono (m := (i + j) / 2) (by omega) hk
          go_wp2_with (first
            | ((with_reducible refine wpList_dst 28 ?_); refine wpList_loadRow 49 (.tmp 27) rfl rfl rfl hrow Try.agg49 hz ?_)
            | (go_at_call 36; refine hcm.mono ?_; rintro e w' ⟨c, rfl, hc1, hc2, hbc⟩; have hc3 : c < 0 := hc1.2 hk; clear hc1 hc2))
          go_roundw
          case rel => exact ⟨_, _, hup, by go_num, rfl, hb.trans (hbc.mono hb.size)⟩
          case measure => simp [intOf]; omega
        · have hdn := hp.down hmono (m := (i + j) / 2) (by omega) (by omega) hk
          go_wp2_with (first
            | ((with_reducible refine wpList_dst 28 ?_); refine wpList_loadRow 49 (.tmp 27) rfl rfl rfl hrow Try.agg49 hz ?_)
            | (go_at_call 36; refine hcm.mono ?_; rintro e w' ⟨c, rfl, hc1, hc2, hbc⟩; have hc3 : ¬ c < 0 := fun h => hk (hc1.1 h); clear hc1 hc2))
          go_roundw
          case rel => exact ⟨_, _, hdn, rfl, by go_num, hb.trans (hbc.mono hb.size)⟩
          case measure => simp [intOf]; omega
      · have hji : i = j := by omega
        subst hji
        by_cases hm : i < es.length
        · have hrow : Row wr b (o + i * 11) es[i] := (h6.below hb h4).elem hsz _ hm
          have hz : ∀ w, (sizeOf 49).run Try.prog w = .ok es[i].length w := fun w => by rw [hsz _ (List.getElem_mem hm)]; exact Try.size49 w
          have hcm := HC.out _ hm wr
          go_wp2_with (first
            | ((with_reducible refine wpList_dst 44 ?_); refine wpList_loadRow 49 (.tmp 43) rfl rfl rfl hrow Try.agg49 hz ?_)
            | (go_at_call 36; refine hcm.mono ?_; rintro e w' ⟨c, rfl, hc1, hc2, hbc⟩; have HC2 := Lib.hid hc2; clear hc1 hc2))
          go_ret2
          exact ⟨i, _, rfl, hp, by simp [hm, HC2.out], hb.trans (hbc.mono hb.size)⟩
        · go_wp2
          go_ret2
          exact ⟨i, _, rfl, hp, by simp [hm], hb⟩

set_option maxRecDepth 100000 in
set_option maxHeartbeats 1600000 in
theorem bsf70 (es : List (List Value)) (key : Nat → Int) (v : Value) (t : Int) (w : World)
    (hs : SlOf w 3 v es.length es.flatten) (hsz : ∀ e ∈ es, e.length = 3) (hn : es.length ≤ 1000) (hmono : Rising key es.length)
    (hcmp : ∀ i (h : i < es.length) (W : World), Calls Try.prog 71 #[.agg es[i].toArray, .int .i64 t] W (Sided (key i) t W)) :
    Calls Try.prog 70 #[v, .int .i64 t, .func (.func 71) #[] #[]] w (PlaceOf w key t es.length) := by
  have HC := Lib.hid hcmp
  clear hcmp
  rcases hs with ⟨rfl, h0, _⟩ | ⟨b, o, cap, rfl, h2, h3, h4, h5, h6⟩
  · rw [h0]
    clear HC
    go_enter Try.func70, Try.ntmps70
    go_wp2
    go_loop [9, 10] (fun i j => i = .int .i64 0 ∧ j = .int .i64 0) (fun _ _ => 0)
    case atStart => exact ⟨rfl, rfl⟩
    case round =>
      obtain ⟨rfl, rfl⟩ := hrel
      go_wp2
      go_ret2
      exact ⟨0, false, rfl, Parted.start key t 0, by simp, Below.refl _ _⟩
  · have h5' := Lib.hid h5
    clear h5
    go_enter Try.func70, Try.ntmps70
    go_wp2
    go_loopw [9, 10] (fun vi vj wr => ∃ i j : Nat, Parted key t es.length i j ∧ vi = .int .i64 i ∧ vj = .int .i64 j ∧ Below w.heap.size w wr) (fun vi vj _ => (intOf vj - intOf vi).toNat)
    case atStart => exact ⟨0, es.length, Parted.start key t _, rfl, rfl, Below.refl _ _⟩
    case round =>
      obtain ⟨i, j, hp, rfl, rfl, hb⟩ := hrel
      have hij : i ≤ j := hp.1
      have hjn : j ≤ es.length := hp.2.1
      by_cases hlt : i < j
      · have hm : (i + j) / 2 < es.length := by omega
        have hrow : Row wr b (o + (i + j) / 2 * 3) es[(i + j) / 2] := (h6.below hb h4).elem hsz _ hm
        have hz : ∀ w, (sizeOf 106).run Try.prog w = .ok es[(i + j) / 2].length w := fun w => by rw [hsz _ (List.getElem_mem hm)]; exact Try.size106 w
        have hcm := HC.out _ hm wr
        by_cases hk : key ((i + j) / 2) < t
        · have hup := hp.up hmono (m := (i + j) / 2) (by omega) hk
          go_wp2_with (first
            | ((with_reducible refine wpList_dst 28 ?_); refine wpList_loadRow 106 (.tmp 27) rfl rfl rfl hrow Try.agg106 hz ?_)
            | (go_at_call 71; refine hcm.mono ?_; rintro e w' ⟨c, rfl, hc1, hc2, hbc⟩; have hc3 : c < 0 := hc1.2 hk; clear hc1 hc2))
          go_roundw
          case rel => exact ⟨_, _, hup, by go_num, rfl, hb.trans (hbc.mono hb.size)⟩
          case measure => simp [intOf]; omega
        · have hdn := hp.down hmono (m := (i + j) / 2) (by omega) (by omega) hk
          go_wp2_with (first
            | ((with_reducible refine wpList_dst 28 ?_); refine wpList_loadRow 106 (.tmp 27) rfl rfl rfl hrow Try.agg106 hz ?_)
            | (go_at_call 71; refine hcm.mono ?_; rintro e w' ⟨c, rfl, hc1, hc2, hbc⟩; have hc3 : ¬ c < 0 := fun h => hk (hc1.1 h); clear hc1 hc2))
          go_roundw
          case rel => exact ⟨_, _, hdn, rfl, by go_num, hb.trans (hbc.mono hb.size)⟩
          case measure => simp [intOf]; omega
      · have hji : i = j := by omega
        subst hji
        by_cases hm : i < es.length
        · have hrow : Row wr b (o + i * 3) es[i] := (h6.below hb h4).elem hsz _ hm
          have hz : ∀ w, (sizeOf 106).run Try.prog w = .ok es[i].length w := fun w => by rw [hsz _ (List.getElem_mem hm)]; exact Try.size106 w
          have hcm := HC.out _ hm wr
          go_wp2_with (first
            | ((with_reducible refine wpList_dst 44 ?_); refine wpList_loadRow 106 (.tmp 43) rfl rfl rfl hrow Try.agg106 hz ?_)
            | (go_at_call 71; refine hcm.mono ?_; rintro e w' ⟨c, rfl, hc1, hc2, hbc⟩; have HC2 := Lib.hid hc2; clear hc1 hc2))
          go_ret2
          exact ⟨i, _, rfl, hp, by simp [hm, HC2.out], hb.trans (hbc.mono hb.size)⟩
        · go_wp2
          go_ret2
          exact ⟨i, _, rfl, hp, by simp [hm], hb⟩

end Go.Proofs.Ytihfikepfhcboaa
