/- cached31: its loops, walked. Conditions: each stands in its own theorem. -/
import Derived.Test.YtihfikepfhcboaaArr
import Derived.Deep.CutBlock
import Derived.Deep.QuietTactic
import Derived.BigQuiet
namespace Go.Proofs.Ytihfikepfhcboaa
open Go.RowKit

/-- An answer that is put, as it came in. -/
structure K31 where
  cl : Nat
  xid : Nat
  sz : Nat
def K31.row (k : K31) : List Value := [.int .u8 k.cl, .int .u8 k.xid, .int .u8 k.sz]
structure K31.fits (k : K31) : Prop where
  a : k.cl ≤ 255
  b : k.xid ≤ 255
  c : k.sz ≤ 255
def stepK (win : Nat) (s : St × Nat) (k : K31) : St × Nat := (s.1.put win (k.cl % 17) (k.xid % 13) ((k.sz % 5 : Nat) : Int), if s.1.bad (k.cl % 17) (k.xid % 13) then s.2 else s.2 + 1)
def runK (win : Nat) (l : List K31) : St × Nat := l.foldl (stepK win) (St.start, 0)
theorem runK_snoc (win : Nat) (l : List K31) (i : Nat) (hi : i < l.length) : runK win (l.take (i + 1)) = stepK win (runK win (l.take i)) l[i] := by
  rw [← List.take_append_getElem hi]
  unfold runK
  rw [List.foldl_append]
  rfl
theorem runK_inv (win : Nat) (h0 : 1 ≤ win) (h1 : win ≤ 8) (l : List K31) : Inv win (runK win l).1 := by
  unfold runK
  suffices h : ∀ (l : List K31) (s : St × Nat), Inv win s.1 → Inv win (l.foldl (stepK win) s).1 from h l _ (Inv.start win h0 h1)
  intro l
  induction l with
  | nil => exact fun s h => h
  | cons k l ih =>
    intro s h
    exact ih _ (h.put h0 _ _ _ (Nat.mod_lt _ (by decide)) (Nat.mod_lt _ (by decide)) (by omega) (by omega))
theorem runK_count (win : Nat) (l : List K31) : (runK win l).2 ≤ l.length := by
  unfold runK
  suffices h : ∀ (l : List K31) (s : St × Nat), (l.foldl (stepK win) s).2 ≤ s.2 + l.length by simpa using h l (St.start, 0)
  intro l
  induction l with
  | nil => intro s; simp
  | cons k l ih =>
    intro s
    have := ih (stepK win s k)
    have h2 : (stepK win s k).2 ≤ s.2 + 1 := by unfold stepK; simp only; split <;> omega
    simp only [List.foldl_cons, List.length_cons]
    omega
theorem k31_sz (l : List K31) : ∀ e ∈ l.map K31.row, e.length = 3 := by
  intro e he
  obtain ⟨p, _, rfl⟩ := List.mem_map.1 he
  rfl
theorem Try.agg36 (w : World) : (isAgg 36).run Try.prog w = .ok true w := by kernel_rfl
theorem Try.size36 (w : World) : (sizeOf 36).run Try.prog w = .ok 3 w := by kernel_rfl

theorem below_drewN {B : Nat} {a w : World} (h : Below B a w) (n : Nat) : Below B a (w.drewN n) := ⟨h.os, h.tape, h.output, h.size, h.block⟩

/-- The memory ahead of the first round. -/
theorem CState.start {w w1 : World} (win : Nat) (hb : Below w.heap.size w w1) :
    CState w w1.heap.size win St.start [] (.slice none 0 0) (((((w1.alloc (.cells #[.int .i64 win, .slice none 0 0] 39)).alloc (.cells (arr2 fun _ _ => .bool false).toArray 53)).alloc (.cells (arr2 fun _ _ => .bool false).toArray 53)).alloc (.cells (arr2 fun _ _ => .int .i64 0).toArray 55)).alloc (.cells (fnList 17 fun _ => .int .i64 0).toArray 56)) := by
  have n0 : ∀ (W : World) (o : Obj), (W.alloc o).heap.size = W.heap.size + 1 := fun W o => by simp
  refine ⟨((((hb.alloc hb.size _).alloc (by have := hb.size; simp; omega) _).alloc (by have := hb.size; simp; omega) _).alloc (by have := hb.size; simp; omega) _).alloc (by have := hb.size; simp; omega) _, hb.size, ?_, ?_, ?_, ?_, ?_, ⟨[], ⟨World.ownsRow_nil _ _ _ _, by simp, fun i j _ hj => by simp at hj, by simp⟩, rfl⟩⟩
  · rw [Below.heap_alloc _ _ _ (by simp only [n0]; omega), Below.heap_alloc _ _ _ (by simp only [n0]; omega), Below.heap_alloc _ _ _ (by simp only [n0]; omega), Below.heap_alloc _ _ _ (by simp only [n0]; omega)]
    exact heap_alloc_new _ _
  · rw [Below.heap_alloc _ _ _ (by simp only [n0]; omega), Below.heap_alloc _ _ _ (by simp only [n0]; omega), Below.heap_alloc _ _ _ (by simp only [n0]; omega)]
    have := heap_alloc_new (w1.alloc (.cells #[.int .i64 win, .slice none 0 0] 39)) (.cells (arr2 fun _ _ => .bool false).toArray 53)
    rw [n0] at this
    exact this
  · rw [Below.heap_alloc _ _ _ (by simp only [n0]; omega), Below.heap_alloc _ _ _ (by simp only [n0]; omega)]
    have := heap_alloc_new ((w1.alloc (.cells #[.int .i64 win, .slice none 0 0] 39)).alloc (.cells (arr2 fun _ _ => .bool false).toArray 53)) (.cells (arr2 fun _ _ => .bool false).toArray 53)
    rw [n0, n0] at this
    exact this
  · rw [Below.heap_alloc _ _ _ (by simp only [n0]; omega)]
    have := heap_alloc_new (((w1.alloc (.cells #[.int .i64 win, .slice none 0 0] 39)).alloc (.cells (arr2 fun _ _ => .bool false).toArray 53)).alloc (.cells (arr2 fun _ _ => .bool false).toArray 53)) (.cells (arr2 fun _ _ => .int .i64 0).toArray 55)
    rw [n0, n0, n0] at this
    exact this
  · have := heap_alloc_new ((((w1.alloc (.cells #[.int .i64 win, .slice none 0 0] 39)).alloc (.cells (arr2 fun _ _ => .bool false).toArray 53)).alloc (.cells (arr2 fun _ _ => .bool false).toArray 53)).alloc (.cells (arr2 fun _ _ => .int .i64 0).toArray 55)) (.cells (fnList 17 fun _ => .int .i64 0).toArray 56)
    rw [n0, n0, n0, n0] at this
    exact this

set_option maxRecDepth 100000 in
set_option maxHeartbeats 12800000 in
theorem cached6_nil (win : Nat) (a : Option Addr) (cap : Nat) (w : World) (hw0 : 1 ≤ win) (hw1 : win ≤ 8) :
    Calls Try.prog 6 #[.int .i64 win, .slice a 0 cap] w fun e w' => e = .returned (.tuple #[.int .i64 0, .bool true]) ∧ Below w.heap.size w w' := by
  go_enter Try.func6, Try.ntmps6
  go_wp2_with (first
    | (go_at_call 9; refine (new9 win _ (by omega) (by omega)).mono ?_; rintro e w1 ⟨rfl, hb⟩)
    | ((with_reducible refine wpList_dst 8 ?_); refine wpList_allocZ 53 rfl rfl Try.zero53 ?_)
    | ((with_reducible refine wpList_dst 9 ?_); refine wpList_allocZ 53 rfl rfl Try.zero53 ?_)
    | ((with_reducible refine wpList_dst 10 ?_); refine wpList_allocZ 55 rfl rfl Try.zero55 ?_)
    | ((with_reducible refine wpList_dst 11 ?_); refine wpList_allocZ 56 rfl rfl Try.zero56 ?_; have hC := CState.start win hb))
  go_loop [12, 39] (fun vm vi => vm = .int .i64 0 ∧ vi = .int .i64 0) (fun _ _ => 0)
  case atStart => exact ⟨rfl, rfl⟩
  case round =>
    obtain ⟨rfl, rfl⟩ := hrel
    go_wp2
    go_ret2
    exact ⟨rfl, hC.below⟩

theorem put_big {w W : World} {B win who x sz N H : Nat} {s s' : St} {K : Nat → Bool} {v : Value} (hM : CState w B win (s.mid who x ((sz : Int) % 5)) s'.ks v W) (hS : s.put win who x ((sz % 5 : Nat) : Int) = s') (hb : s.bad who x = false) (hK : K = (s.mid who x ((sz : Int) % 5)).kept who) (hN : (flj K 0).length = N) (hH : (flj K 0).headD 0 = H) (hH13 : H < 13) (hbig : win < N) :
    CState w B win s' s'.ks v ((W.setCell ⟨B + 2, who * 13 + H, none⟩ (.bool false)).setCell ⟨B + 4, who, none⟩ (.int .i64 H)) := by
  have e5 : ((sz : Int) % 5) = ((sz % 5 : Nat) : Int) := by omega
  rw [e5] at hM hK
  have e := put_good win s who x ((sz % 5 : Nat) : Int) hb
  have hn : (fl ((s.mid who x ((sz % 5 : Nat) : Int)).kept who)).length = N := by rw [← hK]; exact hN
  have hh : (fl ((s.mid who x ((sz % 5 : Nat) : Int)).kept who)).headD 0 = H := by rw [← hK]; exact hH
  rw [hS, hn, hh, if_pos hbig, if_pos hbig] at e
  have h3 := ((hM.setKept who H hH13 false).setGone who H).ksfree (putK win ⟨who, x, 2, 1, ((sz % 5 : Nat) : Int)⟩ s.ks)
  rw [e] at h3 ⊢
  exact h3
theorem put_small {w W : World} {B win who x sz N : Nat} {s s' : St} {K : Nat → Bool} {v : Value} (hM : CState w B win (s.mid who x ((sz : Int) % 5)) s'.ks v W) (hS : s.put win who x ((sz % 5 : Nat) : Int) = s') (hb : s.bad who x = false) (hK : K = (s.mid who x ((sz : Int) % 5)).kept who) (hN : (flj K 0).length = N) (hbig : ¬ win < N) :
    CState w B win s' s'.ks v W := by
  have e5 : ((sz : Int) % 5) = ((sz % 5 : Nat) : Int) := by omega
  rw [e5] at hM hK
  have e := put_good win s who x ((sz % 5 : Nat) : Int) hb
  have hn : (fl ((s.mid who x ((sz % 5 : Nat) : Int)).kept who)).length = N := by rw [← hK]; exact hN
  rw [hS, hn, if_neg hbig, if_neg hbig] at e
  have h3 := hM.ksfree (putK win ⟨who, x, 2, 1, ((sz % 5 : Nat) : Int)⟩ s.ks)
  rw [e] at h3 ⊢
  exact h3
theorem bad_yes {s : St} {who x : Nat} (h : who = 16 ∨ x = 0 ∨ x ≤ s.gone who) : Value.bool true = Value.bool (s.bad who x) := by
  congr 1; symm; unfold St.bad
  rcases h with h | h | h <;> simp [h]
theorem bad_no {s : St} {who x : Nat} (h : ¬ who = 16 ∧ ¬ x = 0 ∧ ¬ x ≤ s.gone who) : Value.bool (s.kept who x) = Value.bool (s.bad who x) := by
  congr 1; unfold St.bad; rw [show (who == 16) = false by simpa using h.1, show (x == 0) = false by simpa using h.2.1, show decide (x ≤ s.gone who) = false by simpa using h.2.2]; rfl

set_option maxRecDepth 100000 in
set_option maxHeartbeats 12800000 in
theorem cached6_some (win : Nat) (l : List K31) (b o cap : Nat) (w : World) (hrow : Row w b o (l.map K31.row).flatten) (hbw : b < w.heap.size) (hlc : l.length ≤ cap) (hf : ∀ k ∈ l, k.fits) (hw0 : 1 ≤ win) (hw1 : win ≤ 8) (hn : l.length ≤ 60) :
    Calls Try.prog 6 #[.int .i64 win, .slice (some ⟨b, o, none⟩) l.length cap] w fun e w' => e = .returned (.tuple #[.int .i64 ((runK win l).2 : Nat), .bool true]) ∧ Below w.heap.size w w' := by
  have HROW := Lib.hid hrow
  have HF := Lib.hid hf
  clear hrow hf
  go_enter Try.func6, Try.ntmps6
  go_wp2_with (first
    | (go_at_call 9; refine (new9 win _ (by omega) (by omega)).mono ?_; rintro e w1 ⟨rfl, hb⟩)
    | ((with_reducible refine wpList_dst 8 ?_); refine wpList_allocZ 53 rfl rfl Try.zero53 ?_)
    | ((with_reducible refine wpList_dst 9 ?_); refine wpList_allocZ 53 rfl rfl Try.zero53 ?_)
    | ((with_reducible refine wpList_dst 10 ?_); refine wpList_allocZ 55 rfl rfl Try.zero55 ?_)
    | ((with_reducible refine wpList_dst 11 ?_); refine wpList_allocZ 56 rfl rfl Try.zero56 ?_; have hC := CState.start win hb))
  go_loopw [12, 39] (fun vm vi wr => ∃ (i : Nat) (v : Value), i ≤ l.length ∧ vi = .int .i64 i ∧ vm = .int .i64 ((runK win (l.take i)).2 : Nat) ∧ CState w w1.heap.size win (runK win (l.take i)).1 (runK win (l.take i)).1.ks v wr) (fun _ vi _ => (l.length - intOf vi).toNat)
  case atStart => exact ⟨0, _, Nat.zero_le _, rfl, rfl, hC⟩
  case round =>
    obtain ⟨wo, rfl⟩ : ∃ wo : World, wo = wr := ⟨_, rfl⟩
    obtain ⟨i, v, hi, rfl, rfl, hC⟩ := hrel
    by_cases hlt : i < l.length
    · have hinv := runK_inv win hw0 hw1 (l.take i)
      have hcnt := runK_count win (l.take i)
      have hsn := runK_snoc win l i hlt
      have hcnt2 : (runK win (l.take i)).2 ≤ 60 := by rw [List.length_take] at hcnt; omega
      have hrow : Row wo b (o + i * 3) l[i].row := by
        have := (HROW.out.below hC.below hbw).elem (k31_sz l) i (by simpa using hlt)
        rwa [List.getElem_map] at this
      have hkf := HF.out _ (List.getElem_mem hlt)
      generalize l[i] = k at hsn hrow hkf
      generalize runK win (l.take i) = sm at *
      obtain ⟨s, m⟩ := sm
      simp only at *
      obtain ⟨cl, xid, sz⟩ := k
      obtain ⟨ha, hb255, hc255⟩ := hkf
      simp only at ha hb255 hc255
      have hrow : Row wo b (o + i * 3) [.int .u8 cl, .int .u8 xid, .int .u8 sz] := hrow
      have HSN := Lib.hid hsn
      have HC := Lib.hid hC
      have HI := Lib.hid hinv
      clear hsn hC hinv hcnt
      go_upto_region 11 with ((with_reducible refine wpList_dst 42 ?_); refine wpList_loadRow 36 (.tmp 41) rfl rfl rfl hrow Try.agg36 Try.size36 ?_)
      go_region
      go_upto_region 13 with fail
      have e1 : ((cl : Int) % 17) = ((cl % 17 : Nat) : Int) := by omega
      have e2 : ((xid : Int) % 13) = ((xid % 13 : Nat) : Int) := by omega
      have hwho : cl % 17 < 17 := Nat.mod_lt _ (by decide)
      have hx13 : xid % 13 < 13 := Nat.mod_lt _ (by decide)
      simp only [stepK] at HSN
      rw [e1, e2]
      generalize cl % 17 = who at HSN hwho ⊢
      generalize xid % 13 = x at HSN hx13 ⊢
      have hCa := HC.out.step (((Below.refl wo.heap.size wo).alloc (Nat.le_refl _) (.cells #[.int .u8 cl, .int .u8 xid, .int .u8 sz] 36)).drew)
      have hX : ((wo.alloc (.cells #[.int .u8 cl, .int .u8 xid, .int .u8 sz] 36)).drew).heap[wo.heap.size]? = some (.cells #[.int .u8 cl, .int .u8 xid, .int .u8 sz] 36 (0, 0)) := heap_alloc_new wo _
      have hbX := HC.out.lt
      obtain ⟨wa, hwa⟩ : ∃ wa, wa = (wo.alloc (.cells #[.int .u8 cl, .int .u8 xid, .int .u8 sz] 36)).drew := ⟨_, rfl⟩
      rw [← hwa] at hCa hX
      rw [← hwa]
      clear hwa e1 e2
      obtain ⟨hcc, hct, hck, hcs, hcg⟩ := hCa.cells
      have hg1 := hcg who hwho
      have hk1 := hck who x hwho hx13
      have HCA := Lib.hid hCa
      have HX := Lib.hid hX
      clear hcc hct hck hcs hcg hCa hX HC
      go_cut [70] (fun s70 wx => s70 = .bool (s.bad who x) ∧ wx = wa)
      case first =>
        -- BEGIN
        as_aux_lemma =>
          by_cases b1 : who = 16
          · have k1 : ((who : Int) == 16) = true := by simpa using (by omega : (who : Int) = 16)
            have B1 := Lib.hid b1
            clear b1
            go_wp2
            go_meet
            exact ⟨bad_yes (.inl B1.out), rfl⟩
          · have k1 : ((who : Int) == 16) = false := by simpa using (by omega : ¬ (who : Int) = 16)
            have B1 := Lib.hid b1
            clear b1
            by_cases b2 : x = 0
            · have k2 : ((x : Int) == 0) = true := by simpa using (by omega : (x : Int) = 0)
              have B2 := Lib.hid b2
              clear b2
              go_wp2
              go_meet
              exact ⟨bad_yes (.inr (.inl B2.out)), rfl⟩
            · have k2 : ((x : Int) == 0) = false := by simpa using (by omega : ¬ (x : Int) = 0)
              have B2 := Lib.hid b2
              clear b2
              by_cases b3 : x ≤ s.gone who
              · go_wp2
                go_meet
                exact ⟨bad_yes (.inr (.inr b3)), rfl⟩
              · go_wp2
                go_meet
                exact ⟨bad_no ⟨B1.out, B2.out, b3⟩, rfl⟩
        -- END
      case rest =>
        obtain ⟨h70, hwc⟩ := hcut
        subst h70
        subst hwc
        obtain ⟨wb, rfl⟩ : ∃ wb : World, wb = wc := ⟨_, rfl⟩
        obtain ⟨E, hE⟩ : ∃ E : Int, E = if s.bad who x then 2 else 0 := ⟨_, rfl⟩
        have HE := Lib.hid hE
        clear hE
        go_upto_if 70 with fail
        go_cut [17] (fun s17 wx => s17 = .int .i64 E ∧ wx = wb)
        case first =>
          -- BEGIN
          as_aux_lemma =>
            cases hbad : s.bad who x with
            | true =>
              have hE : E = 2 := by rw [HE.out, hbad]; rfl
              subst hE
              clear hbad
              go_wp2
              go_meet
              exact ⟨rfl, rfl⟩
            | false =>
              have hE : E = 0 := by rw [HE.out, hbad]; rfl
              subst hE
              clear hbad
              go_wp2
              go_meet
              exact ⟨rfl, rfl⟩
          -- END
        case rest =>
          obtain ⟨h17, hwc⟩ := hcut
          subst h17
          subst hwc
          obtain ⟨qs, hown, hqs⟩ := HCA.out.own
          have hsz : sz % 5 ≤ 4 := by have := Nat.mod_lt sz (show 0 < 5 by decide); omega
          have e5 : ((sz : Int) % 5) = ((sz % 5 : Nat) : Int) := by omega
          have e6 : (Value.int .i64 ((sz % 5 : Nat) : Int)) = .int .i64 ((sz : Int) % 5) := by rw [e5]
          have hI' := HI.out.put hw0 who x ((sz % 5 : Nat) : Int) hwho hx13 (by omega) (by omega)
          have HP := put_step win s HI.out who x (sz % 5) hwho hx13 hsz v qs wc hown.cacheAt hqs
          rw [e6, ← HE.out] at HP
          generalize hs' : s.put win who x ((sz % 5 : Nat) : Int) = s' at HP hI' HSN
          have HS' := Lib.hid hs'
          have HP := Lib.hid HP
          have HI' := Lib.hid hI'
          have hx1 : max x 1 ≤ 12 := by omega
          have H11 := Lib.hid (fun W (hb : Below wc.heap.size wc W) => look11 win who ((max x 1 : Nat) : Int) v qs W (hown.cacheAt.below hb) (by rw [hqs]; exact HI.out.right) (by have := HI.out.right.length_le; rw [← hqs] at this; simp at this; omega) (by omega) (by omega))
          have hmx : (if (x : Int) < 1 then 1 else (x : Int)) = ((max x 1 : Nat) : Int) := by split <;> omega
          rw [hqs, HI.out.look who (max x 1) hwho (by omega) hx1] at H11
          obtain ⟨av, nv, hv⟩ := SlOf.form hown.cacheAt.1
          subst hv
          have hcA := HCA.out.cells.1
          have hX2 : wc.cell? ⟨wo.heap.size, 2, none⟩ = some (.int .u8 sz) := by rw [blk_cells (cs := [_, _, _]) HX.out]; rfl
          have HMX := Lib.hid hmx
          generalize hL : s.look who (max x 1) = L at H11
          have HL := Lib.hid hL
          obtain ⟨rep, code⟩ := L
          clear hs' hI' hmx hL e5 e6 hown hC hb hrow
          go_upto_region 19 with (first
            | (go_at_call 10; refine HP.out.mono ?_; rintro e w2 ⟨v', qs', rfl, hown', hqs', hb2⟩; obtain ⟨a', c', rfl⟩ := SlOf.form hown'.cacheAt.1; have hb3 := hb2.trans ((Below.refl w2.heap.size w2).alloc (Nat.le_refl _) (.cells #[.int .i64 win, .slice a' qs'.length c'] 39) |>.mono hb2.size); have hcA3 := (HCA.out.step hb3).cells.1; have HO' := Lib.hid hown'; have HQ' := Lib.hid hqs'; clear hown' hqs')
            | (go_at_call 12; refine (right12 win _ qs' _ (HO'.out.cacheAt.below ((Below.refl _ _).alloc (Nat.le_refl _) _)) (by rw [HQ'.out]; exact HI'.out.right) (by have := HI'.out.right.length_le; rw [← HQ'.out] at this; simp at this; omega)).mono ?_; rintro e w4 ⟨rfl, hb4⟩; have hb5 := hb3.trans (hb4.mono (by have := hb2.size; simp; omega)); have hcA4 := (HCA.out.step hb5).cells.1)
            | (go_at_call 11; go_loud (rw [HMX.out]; refine (H11.out _ hb5).mono ?_; rintro e w6 ⟨rfl, hb6⟩; have hb7 := hb5.trans (hb6.mono hb5.size)))
            | ((with_reducible refine wpList_at_store 49 (.tmp 20) (.tmp 99) ?_); go_loud (refine wpList_storeAll (cs := rep.cs) 49 (.tmp 20) (.tmp 99) rfl rfl rfl rfl (heap_alloc_new w6 _) Try.size49 rfl rep.one ?_; intro w8 hW; have hb8 := ((Below.refl w6.heap.size w6).alloc (Nat.le_refl _) _).trans (hW.below (Nat.le_refl _)); clear hW; have hb9 := hb7.trans (hb8.mono hb7.size))))
          have hY := (((hb4.trans (hb6.mono hb4.size)).trans (hb8.mono (Nat.le_trans hb4.size hb6.size))).block w2.heap.size (by simp)).trans (heap_alloc_new w2 _)
          have hYc := blk_cells (cs := [_, _]) hY
          have hC9 := HCA.out.step hb9
          have hO9 : OwnCache w8 (w1.heap.size + 5) (.slice a' qs'.length c') qs' := (HO'.out.same2 fun k _ hk => ((((hb4.trans (hb6.mono hb4.size)).trans (hb8.mono (Nat.le_trans hb4.size hb6.size))).block k (by simp; omega)).trans (Below.heap_alloc w2 _ _ hk))).mono (by have := HCA.out.lt; omega)
          have HXB := Lib.hid ((hb9.block wo.heap.size (Array.getElem?_eq_some_iff.1 HX.out).1).trans HX.out)
          have HC9 := Lib.hid hC9
          have HO9 := Lib.hid hO9
          have hBf := blk_free hC9.c
          have hcA9 := hC9.cells.1
          clear hb2 hb3 hb4 hb5 hb6 hb7 hb8 hb9 hcA hcA3 hcA4 hX2 hg1 hk1 hY hC9 hO9
          go_cut [106] (fun s106 wx => s106 = .bool false ∧ wx = w8)
          case first =>
            -- BEGIN
            as_aux_lemma =>
              cases hbad : s.bad who x with
              | true =>
                have hE : E = 2 := by rw [HE.out, hbad]; rfl
                subst hE
                clear hbad
                go_wp2
                go_meet
                exact ⟨rfl, rfl⟩
              | false =>
                have hE : E = 0 := by rw [HE.out, hbad]; rfl
                have hco : code = 0 := by have := HL.out; rw [code_good hbad] at this; injection this with _ h2; exact h2.symm
                subst hE hco
                clear hbad
                go_wp2
                go_meet
                exact ⟨rfl, rfl⟩
            -- END
          case rest =>
            obtain ⟨h106, hwc⟩ := hcut
            subst h106
            subst hwc
            go_upto_if 110 with fail
            have hS := HC9.out.swap HO9.out HQ'.out
            obtain ⟨wd, hwd⟩ : ∃ wd, wd = (wc.setCell ⟨w1.heap.size, 0, none⟩ (.int .i64 win)).setCell ⟨w1.heap.size, 1, none⟩ (.slice a' qs'.length c') := ⟨_, rfl⟩
            rw [← hwd] at hS
            rw [← hwd]
            have hXd : wd.heap[wo.heap.size]? = some (.cells #[.int .u8 cl, .int .u8 xid, .int .u8 sz] 36 (0, 0)) := by
              rw [hwd, heap_setCell_other _ _ _ _ (by simp; omega), heap_setCell_other _ _ _ _ (by simp; omega)]
              exact HXB.out
            have HXD := Lib.hid hXd
            have HS := Lib.hid hS
            clear hwd hXd hS hYc hBf hcA9 HC9
            go_cut [12] (fun s12 wx => s12 = .int .i64 ((if s.bad who x then m else m + 1 : Nat) : Int) ∧ CState w w1.heap.size win s' s'.ks (.slice a' qs'.length c') wx)
            case first =>
              -- BEGIN
              as_aux_lemma =>
                cases hbad : s.bad who x with
                | true =>
                  have hE : E = 2 := by rw [HE.out, hbad]; rfl
                  subst hE
                  have hss : s' = s := by rw [← HS'.out]; exact put_bad hbad
                  have HSS := Lib.hid hss
                  have HBAD := Lib.hid hbad
                  clear hbad hss
                  go_wp2
                  go_meet
                  exact ⟨by rw [HBAD.out]; rfl, by have := HS.out; rwa [← HSS.out] at this⟩
                | false =>
                  have hE : E = 0 := by rw [HE.out, hbad]; rfl
                  subst hE
                  have HBAD := Lib.hid hbad
                  clear hbad
                  obtain ⟨hcc, hct, hck, hcs, hcg⟩ := HS.out.cells
                  have ht1 := hct who x hwho hx13
                  have hk1 := hck who x hwho hx13
                  have hs1 := hcs who x hwho hx13
                  have ht2 := blk_free HS.out.there
                  have hk2 := blk_free HS.out.kept
                  have hs2 := blk_free HS.out.size
                  have hX2 : wd.cell? ⟨wo.heap.size, 2, none⟩ = some (.int .u8 sz) := by rw [blk_cells (cs := [_, _, _]) HXD.out]; rfl
                  have hne1 : ¬ w1.heap.size + 1 = wo.heap.size := by omega
                  have hne2 : ¬ w1.heap.size + 2 = wo.heap.size := by omega
                  have hne3 : ¬ w1.heap.size + 3 = wo.heap.size := by omega
                  have hbc : x < 13 := hx13
                  clear hcc hct hck hcs hcg
                  go_upto_region 24 with fail
                  go_region
                  have hM := (((HS.out.setKept who x hbc true).setThere who x hbc true).setSize who x hbc ((sz : Int) % 5)).drew
                  obtain ⟨we, hwe⟩ : ∃ we, we = (((wd.setCell ⟨w1.heap.size + 2, who * 13 + x, none⟩ (.bool true)).setCell ⟨w1.heap.size + 1, who * 13 + x, none⟩ (.bool true)).setCell ⟨w1.heap.size + 3, who * 13 + x, none⟩ (.int .i64 ((sz : Int) % 5))).drew := ⟨_, rfl⟩
                  rw [← hwe] at hM
                  have hM : CState w w1.heap.size win (s.mid who x ((sz : Int) % 5)) s'.ks (.slice a' qs'.length c') we := hM
                  change Exit.then _ _ Exit.normal _ ((((wd.setCell ⟨w1.heap.size + 2, who * 13 + x, none⟩ (.bool true)).setCell ⟨w1.heap.size + 1, who * 13 + x, none⟩ (.bool true)).setCell ⟨w1.heap.size + 3, who * 13 + x, none⟩ (.int .i64 ((sz : Int) % 5))).drew)
                  rw [← hwe]
                  clear hwe ht1 hk1 hs1 ht2 hk2 hs2 hX2
                  obtain ⟨K, hK⟩ : ∃ K, K = (s.mid who x ((sz : Int) % 5)).kept who := ⟨_, rfl⟩
                  have hkk := fun y (hy : y < 13) => hM.cells.2.2.1 who y hwho hy
                  rw [← hK] at hkk
                  have HKK := Lib.hid hkk
                  have HM := Lib.hid hM
                  have HK := Lib.hid hK
                  have hmf := blk_free hM.kept
                  have hgf := blk_free hM.gone
                  have hgc := hM.cells.2.2.2.2 who hwho
                  clear hkk hM hK
                  go_wp2
                  go_loop [22, 23, 24] (fun vn vl vk => ∃ j : Nat, j ≤ 12 ∧ vk = .int .i64 j ∧ vn = .int .i64 ((flj K j).length : Nat) ∧ vl = .int .i64 ((flj K j).headD 0 : Nat)) (fun _ _ vk => (intOf vk).toNat)
                  case atStart => exact ⟨12, Nat.le_refl _, rfl, rfl, rfl⟩
                  case round =>
                    obtain ⟨j, hj, rfl, rfl, rfl⟩ := hrel
                    have hfl := flj_len K j
                    have hfh := flj_head K j
                    generalize hN : (flj K j).length = N at hfl ⊢
                    generalize hH : (flj K j).headD 0 = H at hfh ⊢
                    have HN := Lib.hid hN
                    have HH := Lib.hid hH
                    clear hN hH
                    cases j with
                    | zero =>
                      have hHk := HKK.out H (by omega)
                      by_cases hbig : win < N
                      · have hH13 : H < 13 := by omega
                        have HBIG := Lib.hid hbig
                        go_wp2
                        go_meet
                        exact ⟨by rw [HBAD.out]; rfl, put_big HM.out HS'.out HBAD.out HK.out HN.out HH.out hH13 HBIG.out⟩
                      · have HBIG := Lib.hid hbig
                        go_wp2
                        go_meet
                        exact ⟨by rw [HBAD.out]; rfl, put_small HM.out HS'.out HBAD.out HK.out HN.out HBIG.out⟩
                    | succ q =>
                      have hc := HKK.out (q + 1) (by omega)
                      cases hKq : K (q + 1) with
                      | true =>
                        rw [hKq] at hc
                        have HST := Lib.hid (flj_step K q (by omega))
                        have HKQ := Lib.hid hKq
                        clear hKq
                        go_wp2
                        go_round
                        case rel => exact ⟨q, by omega, by go_num, by rw [HST.out, if_pos HKQ.out, List.length_cons, HN.out]; go_num, by rw [HST.out, if_pos HKQ.out]; go_num⟩
                        case measure => simp [intOf]
                      | false =>
                        rw [hKq] at hc
                        have HST := Lib.hid (flj_step K q (by omega))
                        have HKQ := Lib.hid hKq
                        clear hKq
                        go_wp2
                        go_round
                        case rel => exact ⟨q, by omega, by go_num, by rw [HST.out, if_neg (by rw [HKQ.out]; decide), HN.out], by rw [HST.out, if_neg (by rw [HKQ.out]; decide), HH.out]⟩
                        case measure => simp [intOf]
              -- END
            case rest =>
              obtain ⟨h12, hC⟩ := hcut
              subst h12
              generalize hM : (if s.bad who x then m else m + 1) = M at HSN
              try rw [hM]
              have hM60 : M ≤ 61 := by rw [← hM]; split <;> omega
              obtain ⟨we, rfl⟩ : ∃ we : World, we = wc := ⟨_, rfl⟩
              clear hM HCA HX HXB HXD HS HS' HL H11 HO' HQ' HO9 HMX HE hqs
              go_wp2
              go_loopw [25] (fun vc wr => ∃ c : Nat, c ≤ 17 ∧ vc = .int .i64 c ∧ CState w w1.heap.size win s' s'.ks (.slice a' qs'.length c') wr) (fun vc _ => (17 - intOf vc).toNat)
              case atStart => exact ⟨0, Nat.zero_le _, rfl, hC⟩
              case round =>
                obtain ⟨c, hc, rfl, hC⟩ := hrel
                obtain ⟨wf, rfl⟩ : ∃ wf : World, wf = wr := ⟨_, rfl⟩
                by_cases hc17 : c < 17
                · have hcI : (c : Int) < 17 := by omega
                  go_wp2
                  go_loopw [26] (fun vy wr => ∃ y : Nat, 1 ≤ y ∧ y ≤ 13 ∧ vy = .int .i64 y ∧ CState w w1.heap.size win s' s'.ks (.slice a' qs'.length c') wr) (fun vy _ => (13 - intOf vy).toNat)
                  case atStart => exact ⟨1, Nat.le_refl _, by omega, rfl, hC⟩
                  case round =>
                    obtain ⟨y, hy1, hy, rfl, hC⟩ := hrel
                    obtain ⟨wi, rfl⟩ : ∃ wi : World, wi = wr := ⟨_, rfl⟩
                    by_cases hy13 : y < 13
                    · obtain ⟨qs2, hown2, hqs2⟩ := hC.own
                      have h11 := look11 win c y _ qs2 wi hown2.cacheAt (by rw [hqs2]; exact HI'.out.right) (by have := HI'.out.right.length_le; rw [← hqs2] at this; simp at this; omega) (by omega) (by omega)
                      rw [hqs2, HI'.out.look c y hc17 hy1 (by omega)] at h11
                      obtain ⟨hcc, hct, hck, hcs, hcg⟩ := hC.cells
                      have hct1 := hct c y hc17 hy13
                      have hck1 := hck c y hc17 hy13
                      have hcs1 := hcs c y hc17 hy13
                      have hcg1 := hcg c hc17
                      have hyI : (y : Int) < 13 := by omega
                      have HCI := Lib.hid hC
                      clear hct hck hcs hcg hC hown2
                      cases hk : s'.kept c y with
                      | true =>
                        cases hth : s'.there c y with
                        | true =>
                          -- BEGIN
                          as_aux_lemma =>
                            have hlk : s'.look c y = ((repOf c (s'.size c) y), 1) := by unfold St.look; rw [hk, if_pos rfl]
                            rw [hlk] at h11
                            rw [hk] at hck1
                            rw [hth] at hct1
                            have H11 := Lib.hid h11
                            have HKB := Lib.hid hk
                            have HTB := Lib.hid hth
                            clear h11 hlk hk hth
                            go_upto_region 45 with (first
                              | (go_at_call 11; refine H11.out.mono ?_; rintro e w6 ⟨rfl, hb6⟩; have hC6 := HCI.out.step hb6; have hcA6 := hC6.cells.1; have hck6 := hC6.cells.2.2.1 c y hc17 hy13; rw [HKB.out] at hck6; have hcg6 := hC6.cells.2.2.2.2 c hc17)
                              | ((with_reducible refine wpList_at_store 49 (.tmp 27) (.tmp 164) ?_); go_loud (refine wpList_storeAll (cs := (repOf c (s'.size c) y).cs) 49 (.tmp 27) (.tmp 164) rfl rfl rfl rfl (heap_alloc_new w6 _) Try.size49 rfl (Rep.one _) ?_; intro w8 hW; have hb8 := ((Below.refl w6.heap.size w6).alloc (Nat.le_refl _) _).trans (hW.below (Nat.le_refl _)); have hC8 := hC6.step hb8; have hr8 : ∀ j, w8.cell? ⟨w6.heap.size, j, none⟩ = [.int .i64 c, .int .i64 y, .int .i64 0, .int .i64 2, .int .i64 1, .bool false, .int .i64 (s'.size c y), .slice none 0 0, .slice none 0 0, .bool false, .int .i64 0][j]? := hW.cells; have hct8 := hC8.cells.2.1 c y hc17 hy13; rw [HTB.out] at hct8; have hck8 := hC8.cells.2.2.1 c y hc17 hy13; rw [HKB.out] at hck8; have hcs8 := hC8.cells.2.2.2.1 c y hc17 hy13; have hcg8 := hC8.cells.2.2.2.2 c hc17; have HC8 := Lib.hid hC8; clear hW hb8 hb6 hC6 hC8 hcA6 hck6 hcg6)))
                            go_quiet (fail)
                            go_wp2
                            go_roundw
                            case rel => exact ⟨y + 1, by omega, by omega, by go_num, HC8.out.step (below_drewN (Below.refl _ _) _)⟩
                            case measure => simp [intOf]; omega
                          -- END
                        | false =>
                          -- BEGIN
                          as_aux_lemma =>
                            have hlk : s'.look c y = ((repOf c (s'.size c) y), 1) := by unfold St.look; rw [hk, if_pos rfl]
                            rw [hlk] at h11
                            rw [hk] at hck1
                            rw [hth] at hct1
                            have H11 := Lib.hid h11
                            have HKB := Lib.hid hk
                            have HTB := Lib.hid hth
                            clear h11 hlk hk hth
                            go_upto_region 45 with (first
                              | (go_at_call 11; refine H11.out.mono ?_; rintro e w6 ⟨rfl, hb6⟩; have hC6 := HCI.out.step hb6; have hcA6 := hC6.cells.1; have hck6 := hC6.cells.2.2.1 c y hc17 hy13; rw [HKB.out] at hck6; have hcg6 := hC6.cells.2.2.2.2 c hc17)
                              | ((with_reducible refine wpList_at_store 49 (.tmp 27) (.tmp 164) ?_); go_loud (refine wpList_storeAll (cs := (repOf c (s'.size c) y).cs) 49 (.tmp 27) (.tmp 164) rfl rfl rfl rfl (heap_alloc_new w6 _) Try.size49 rfl (Rep.one _) ?_; intro w8 hW; have hb8 := ((Below.refl w6.heap.size w6).alloc (Nat.le_refl _) _).trans (hW.below (Nat.le_refl _)); have hC8 := hC6.step hb8; have hr8 : ∀ j, w8.cell? ⟨w6.heap.size, j, none⟩ = [.int .i64 c, .int .i64 y, .int .i64 0, .int .i64 2, .int .i64 1, .bool false, .int .i64 (s'.size c y), .slice none 0 0, .slice none 0 0, .bool false, .int .i64 0][j]? := hW.cells; have hct8 := hC8.cells.2.1 c y hc17 hy13; rw [HTB.out] at hct8; have hck8 := hC8.cells.2.2.1 c y hc17 hy13; rw [HKB.out] at hck8; have hcs8 := hC8.cells.2.2.2.1 c y hc17 hy13; have hcg8 := hC8.cells.2.2.2.2 c hc17; have HC8 := Lib.hid hC8; clear hW hb8 hb6 hC6 hC8 hcA6 hck6 hcg6)))
                            go_quiet (fail)
                            go_wp2
                            go_roundw
                            case rel => exact ⟨y + 1, by omega, by omega, by go_num, HC8.out.step (below_drewN (Below.refl _ _) _)⟩
                            case measure => simp [intOf]; omega
                          -- END
                      | false =>
                        by_cases hgo : y ≤ s'.gone c
                        · cases hth : s'.there c y with
                          | true =>
                            -- BEGIN
                            as_aux_lemma =>
                              have hlk : s'.look c y = (Rep.zero, 2) := by unfold St.look; rw [hk, if_neg (by decide), if_pos hgo]
                              rw [hlk] at h11
                              rw [hk] at hck1
                              rw [hth] at hct1
                              have H11 := Lib.hid h11
                              have HKB := Lib.hid hk
                              have HTB := Lib.hid hth
                              clear h11 hlk hk hth
                              go_upto_region 45 with (first
                                | (go_at_call 11; refine H11.out.mono ?_; rintro e w6 ⟨rfl, hb6⟩; have hC6 := HCI.out.step hb6; have hcA6 := hC6.cells.1; have hck6 := hC6.cells.2.2.1 c y hc17 hy13; rw [HKB.out] at hck6; have hcg6 := hC6.cells.2.2.2.2 c hc17)
                                | ((with_reducible refine wpList_at_store 49 (.tmp 27) (.tmp 164) ?_); go_loud (refine wpList_storeAll (cs := Rep.zero.cs) 49 (.tmp 27) (.tmp 164) rfl rfl rfl rfl (heap_alloc_new w6 _) Try.size49 rfl (Rep.one _) ?_; intro w8 hW; have hb8 := ((Below.refl w6.heap.size w6).alloc (Nat.le_refl _) _).trans (hW.below (Nat.le_refl _)); have hC8 := hC6.step hb8; have hr8 : ∀ j, w8.cell? ⟨w6.heap.size, j, none⟩ = [.int .i64 0, .int .i64 0, .int .i64 0, .int .i64 0, .int .i64 0, .bool false, .int .i64 0, .slice none 0 0, .slice none 0 0, .bool false, .int .i64 0][j]? := hW.cells; have hct8 := hC8.cells.2.1 c y hc17 hy13; rw [HTB.out] at hct8; have hck8 := hC8.cells.2.2.1 c y hc17 hy13; rw [HKB.out] at hck8; have hcs8 := hC8.cells.2.2.2.1 c y hc17 hy13; have hcg8 := hC8.cells.2.2.2.2 c hc17; have HC8 := Lib.hid hC8; clear hW hb8 hb6 hC6 hC8 hcA6 hck6 hcg6)))
                              go_quiet (fail)
                              go_wp2
                              go_roundw
                              case rel => exact ⟨y + 1, by omega, by omega, by go_num, HC8.out.step (below_drewN (Below.refl _ _) _)⟩
                              case measure => simp [intOf]; omega
                            -- END
                          | false =>
                            -- BEGIN
                            as_aux_lemma =>
                              have hlk : s'.look c y = (Rep.zero, 2) := by unfold St.look; rw [hk, if_neg (by decide), if_pos hgo]
                              rw [hlk] at h11
                              rw [hk] at hck1
                              rw [hth] at hct1
                              have H11 := Lib.hid h11
                              have HKB := Lib.hid hk
                              have HTB := Lib.hid hth
                              clear h11 hlk hk hth
                              go_upto_region 45 with (first
                                | (go_at_call 11; refine H11.out.mono ?_; rintro e w6 ⟨rfl, hb6⟩; have hC6 := HCI.out.step hb6; have hcA6 := hC6.cells.1; have hck6 := hC6.cells.2.2.1 c y hc17 hy13; rw [HKB.out] at hck6; have hcg6 := hC6.cells.2.2.2.2 c hc17)
                                | ((with_reducible refine wpList_at_store 49 (.tmp 27) (.tmp 164) ?_); go_loud (refine wpList_storeAll (cs := Rep.zero.cs) 49 (.tmp 27) (.tmp 164) rfl rfl rfl rfl (heap_alloc_new w6 _) Try.size49 rfl (Rep.one _) ?_; intro w8 hW; have hb8 := ((Below.refl w6.heap.size w6).alloc (Nat.le_refl _) _).trans (hW.below (Nat.le_refl _)); have hC8 := hC6.step hb8; have hr8 : ∀ j, w8.cell? ⟨w6.heap.size, j, none⟩ = [.int .i64 0, .int .i64 0, .int .i64 0, .int .i64 0, .int .i64 0, .bool false, .int .i64 0, .slice none 0 0, .slice none 0 0, .bool false, .int .i64 0][j]? := hW.cells; have hct8 := hC8.cells.2.1 c y hc17 hy13; rw [HTB.out] at hct8; have hck8 := hC8.cells.2.2.1 c y hc17 hy13; rw [HKB.out] at hck8; have hcs8 := hC8.cells.2.2.2.1 c y hc17 hy13; have hcg8 := hC8.cells.2.2.2.2 c hc17; have HC8 := Lib.hid hC8; clear hW hb8 hb6 hC6 hC8 hcA6 hck6 hcg6)))
                              go_quiet (fail)
                              go_wp2
                              go_roundw
                              case rel => exact ⟨y + 1, by omega, by omega, by go_num, HC8.out.step (below_drewN (Below.refl _ _) _)⟩
                              case measure => simp [intOf]; omega
                            -- END
                        · have hth : s'.there c y = false := by
                            cases hth : s'.there c y with
                            | false => rfl
                            | true => rcases HI'.out.there c y hc17 hy1 (by omega) hth with h | h; (rw [hk] at h; cases h); exact absurd h hgo
                          -- BEGIN
                          as_aux_lemma =>
                            have hlk : s'.look c y = (Rep.zero, 0) := by unfold St.look; rw [hk, if_neg (by decide), if_neg hgo]
                            rw [hlk] at h11
                            rw [hk] at hck1
                            rw [hth] at hct1
                            have H11 := Lib.hid h11
                            have HKB := Lib.hid hk
                            have HTB := Lib.hid hth
                            clear h11 hlk hk hth
                            go_upto_region 45 with (first
                              | (go_at_call 11; refine H11.out.mono ?_; rintro e w6 ⟨rfl, hb6⟩; have hC6 := HCI.out.step hb6; have hcA6 := hC6.cells.1; have hck6 := hC6.cells.2.2.1 c y hc17 hy13; rw [HKB.out] at hck6; have hcg6 := hC6.cells.2.2.2.2 c hc17)
                              | ((with_reducible refine wpList_at_store 49 (.tmp 27) (.tmp 164) ?_); go_loud (refine wpList_storeAll (cs := Rep.zero.cs) 49 (.tmp 27) (.tmp 164) rfl rfl rfl rfl (heap_alloc_new w6 _) Try.size49 rfl (Rep.one _) ?_; intro w8 hW; have hb8 := ((Below.refl w6.heap.size w6).alloc (Nat.le_refl _) _).trans (hW.below (Nat.le_refl _)); have hC8 := hC6.step hb8; have hr8 : ∀ j, w8.cell? ⟨w6.heap.size, j, none⟩ = [.int .i64 0, .int .i64 0, .int .i64 0, .int .i64 0, .int .i64 0, .bool false, .int .i64 0, .slice none 0 0, .slice none 0 0, .bool false, .int .i64 0][j]? := hW.cells; have hct8 := hC8.cells.2.1 c y hc17 hy13; rw [HTB.out] at hct8; have hck8 := hC8.cells.2.2.1 c y hc17 hy13; rw [HKB.out] at hck8; have hcs8 := hC8.cells.2.2.2.1 c y hc17 hy13; have hcg8 := hC8.cells.2.2.2.2 c hc17; have HC8 := Lib.hid hC8; clear hW hb8 hb6 hC6 hC8 hcA6 hck6 hcg6)))
                            go_quiet (fail)
                            go_wp2
                            go_roundw
                            case rel => exact ⟨y + 1, by omega, by omega, by go_num, HC8.out.step (below_drewN (Below.refl _ _) _)⟩
                            case measure => simp [intOf]; omega
                          -- END
                    · have hy13' : y = 13 := by omega
                      subst hy13'
                      go_wp2
                      go_roundw
                      case rel => exact ⟨c + 1, by omega, by go_num, hC⟩
                      case measure => simp [intOf]; omega
                · have hc17' : c = 17 := by omega
                  subst hc17'
                  go_wp2
                  go_roundw
                  case rel => exact ⟨i + 1, _, hlt, by go_num, by rw [HSN.out], by rw [HSN.out]; exact hC⟩
                  case measure => simp [intOf]; omega
    · have hie : i = l.length := by omega
      subst hie
      go_wp2
      go_ret2
      exact ⟨by rw [List.take_length]; rfl, hC.below⟩
end Go.Proofs.Ytihfikepfhcboaa
