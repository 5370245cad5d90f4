/- TopReplies: for every window and every list of answers that are put, the law answers true, and both read as they did. Conditions: none. -/
import Derived.Test.YtihfikepfhcboaaRows
import Derived.Test.YtihfikepfhcboaaWasw
import Derived.ProofKit
import Derived.Deep.Slices
import Derived.Deep.Fields
import Derived.ChangeSame
namespace Go.Proofs.Ytihfikepfhcboaa
open Go.ChangeShapes Go.WideShapes Go.ChangeAt Go.RowKit Go.Deep

theorem top3_long (n : Int) (a : Option Addr) (len cap : Nat) (w : World) (hn : 60 < len) (hm : len ≤ maxLen) :
    Calls Try.prog 3 #[.int .u8 n, .slice a len cap] w fun e w' => e = .returned (.bool true) ∧ Below w.heap.size w w' := by
  unfold maxLen at hm
  have hl : (60 : Int) < (len : Int) := by omega
  go_enter Try.func3, Try.ntmps3
  go_wp2_with (go_at_call 5; refine (was5 _).mono ?_; rintro e w' ⟨rfl, hb⟩)
  go_ret
  exact ⟨rfl, hb⟩
theorem top3_short (n : Nat) (a : Option Addr) (len cap M : Nat) (w : World) (hn : len ≤ 60) (hn8 : n < 256)
    (h6 : Calls Try.prog 6 #[.int .i64 ((n % 8 + 1 : Nat) : Int), .slice a len cap] w fun e w' => e = .returned (.tuple #[.int .i64 (M : Nat), .bool true]) ∧ Below w.heap.size w w') :
    Calls Try.prog 3 #[.int .u8 n, .slice a len cap] w fun e w' => e = .returned (.bool true) ∧ Below w.heap.size w w' := by
  have H6 := Lib.hid h6
  clear h6
  have e1 : (1 : Int) + (n : Int) % 8 = ((n % 8 + 1 : Nat) : Int) := by omega
  have E1 := Lib.hid e1
  clear e1
  go_enter Try.func3, Try.ntmps3
  go_wp2_with (first
    | (go_at_call 6; go_loud (rw [E1.out]; refine H6.out.mono ?_; rintro e w1 ⟨rfl, hb1⟩))
    | (go_at_call 5; refine (was5 _).mono ?_; rintro e w2 ⟨rfl, hb2⟩))
  go_ret
  exact ⟨rfl, hb1.trans (hb2.mono hb1.size)⟩

section
variable {H : Type} {enc : TypeId × Value → H} {P : Program}
/-- The row's last step where the call has only made new memory. -/
theorem post_of_below {f : Func} {s : ChangeSpec} {apart fresh handsOn again : Bool} {W W' : World} {args : Array Value} {v : Value} {ds gs : List (DataW H)} {before pa pv : List MemPlace}
    (hW : DataW.Whole enc P f.params.toList s.vars apart W args.toList ds gs before)
    (hres : ∀ (b : Nat) (sp : Nat → Bool) (hd : Bool), DataW.TrodAll enc P W' b sp hd f.resultTypes.toList (v.resultList f.resultTypes.size) (s.fn H (ds ++ gs)).results [])
    (hargs : ∀ sp : Nat → Bool, (∀ p ∈ before, sp p.block = true) → DataW.TrodAll enc P W' 0 sp true f.params.toList args.toList (s.fn H (ds ++ gs)).args pa)
    (hvars : ∀ sp : Nat → Bool, (∀ p ∈ before, sp p.block = true) → DataW.TrodVars enc P W' sp s.vars (s.fn H (ds ++ gs)).vars pv)
    (hps : before = pa ++ pv) (hb : Below W.heap.size W W')
    (hok : ∀ (j : Nat) (t : TypeId) (r : Value), f.resultTypes[j]? = some t → (v.resultList f.resultTypes.size)[j]? = some r → Value.okWide P W' .any 0 t r) :
    s.post enc P f apart fresh handsOn again W args v W' := by
  have hlt : ∀ p ∈ before, p.block < W.heap.size := fun p hp => hW.lt p hp
  have hold : ∀ p ∈ before, (fun b => decide (b < W.heap.size)) p.block = true := fun p hp => by simpa using hlt p hp
  refine ⟨ds, gs, before, [], pa, pv, hW, hres _ _ _, hargs _ hold, hvars _ hold, World.keptBut_mono (fun p hp => ⟨hp, ?_⟩) (hb.frame (· ∈ before)), fun _ => ?_⟩
  · rw [hps, List.mem_append] at hp
    exact Or.inr hp
  · obtain ⟨_, _, _, _, _, hz, hn⟩ := hW
    refine ⟨hok, _, _, ([] ++ pa) ++ pv, ⟨[] ++ pa, pv, trodAll_append (hargs _ (fun _ _ => rfl)) (hres _ _ _), hvars _ (fun _ _ => rfl), rfl, ?_, ?_⟩, ?_⟩
    · intro b off hp
      have hin : MemPlace.cell b off ∈ before := by rw [hps]; simpa using hp
      rw [hb.frozen (hlt _ hin)]
      exact hz b off hin
    · intro ha
      have := hn ha
      rw [hps] at this
      simpa using this
    · intro p hp _
      rw [hps]
      simpa using hp

theorem open_slice_fields {w : World} {base : Nat} {spare : Nat → Bool} {held : Bool} {t e : TypeId} {fs : Array Field} {fuel : Nat} {cs : List Value} {x : DataW H × List MemPlace} (ht : P.underlying t = some (.slice e)) (he : P.underlying e = some (.struct fs))
    (hone : oneCellFields P fs = true) (hC : P.cellsOf e = fs.size) (h : DataW.trod enc P w base spare held fuel t cs = some x) :
    (cs = [.slice none 0 0] ∧ x = (.nil, [])) ∨
    ∃ (a : Addr) (len cap m : Nat) (D : Nat → DataW H) (Pl : Nat → List MemPlace), cs = [.slice (some a) len cap] ∧ base ≤ a.block ∧ len ≤ cap ∧ cap ≤ maxLen ∧ m = (if spare a.block then cap else len) ∧
      x = (.slice ((List.range len).map D) ((List.range (m - len)).map fun j => D (len + j)), MemPlace.row a (m * fs.size) ++ (List.range m).flatMap Pl) ∧
      ∀ i, i < m → ∃ (ys : List (DataW H × List MemPlace)) (n : Nat), D i = .agg (ys.map (·.1)) ∧ Pl i = ys.flatMap (·.2) ∧ ys.length = fs.size ∧
        ∀ (j : Nat) (f : Field), fs[j]? = some f → ∃ (v : Value) (y : DataW H × List MemPlace), w.cell? (a.add (i * fs.size + j)) = some v ∧ ys[j]? = some y ∧ DataW.trod enc P w base spare held n f.type [v] = some y := by
  rcases open_slice ht h with h0 | ⟨a, len, cap, m, n, D, Pl, hcs, hb, hl, hm, hmm, hx, hi⟩
  · exact .inl h0
  · refine .inr ⟨a, len, cap, m, D, Pl, hcs, hb, hl, hm, hmm, by rw [hC] at hx; exact hx, fun i him => ?_⟩
    obtain ⟨cs', hc, ht'⟩ := hi i him
    rw [hC] at hc
    obtain ⟨ys, n', hn', hy, hlen, hyl, hf⟩ := DataW.trod_struct he ht'
    obtain ⟨_, hcl, hat⟩ := World.cells?_some hc
    simp only [Prod.mk.injEq] at hy
    refine ⟨ys, n', hy.1, hy.2, hyl, fun j f hj => ?_⟩
    obtain ⟨ho, hk⟩ := hone_of hone j f hj
    have hjl : j < fs.size := (Array.getElem?_eq_some_iff.1 hj).1
    have hcell := hat j hjl
    have hv : cs'[j]? = some (cs'[j]'(by omega)) := List.getElem?_eq_getElem (by omega)
    have h1 := hf j f hj
    rw [ho, hk] at h1
    have hone' : (cs'.drop j).take 1 = [cs'[j]'(by omega)] := by
      rw [List.drop_eq_getElem_cons (by omega)]
      rfl
    rw [hone'] at h1
    have hys : ys[j]? = some (ys[j]'(by omega)) := List.getElem?_eq_getElem (by omega)
    refine ⟨_, _, ?_, hys, h1.trans hys⟩
    rw [← Go.Deep.add_add, hcell, hv]

/-- What lies below new memory reads as it did, whatever of it may be spare. -/
theorem stays {t : TypeId} (hl : laidOutB P = true) (hr : P.readableRec t = true) (hrow : t < P.types.size) {W W' : World} {v : Value} {d : DataW H} {ps : List MemPlace}
    (h : DataW.Trod enc P W 0 (fun _ => true) true t v d ps) (hb : Below W.heap.size W W') (hlt : ∀ x ∈ ps, x.block < W.heap.size) (sp : Nat → Bool) (hsp : ∀ p ∈ ps, sp p.block = true) :
    DataW.Trod enc P W' 0 sp true t v d ps :=
  WideElems.Trod_stays hl hr hrow h (fun x hx => hb.same (hlt x hx)) hsp
end

theorem u8_bounds {n : Int} (h : (Lit.int .u8 n).wf = true) : 0 ≤ n ∧ n ≤ 255 := by
  simp only [Lit.wf, Bool.and_eq_true, decide_eq_true_eq] at h
  have a : IntKind.min .u8 = 0 := rfl
  have b : IntKind.max .u8 = 255 := rfl
  omega

theorem Try.own : ownKnob Try.prog.godebug = none := by kernel_rfl
theorem Try.laidOut : laidOutB Try.prog = true := by kernel_rfl

theorem Row.of_elems {w : World} {b o : Nat} (n : Nat) (g : Nat → List Value) (hg : ∀ i, (g i).length = 3) (h : ∀ i, i < n → Row w b (o + i * 3) (g i)) : Row w b o ((List.range n).map g).flatten := by
  induction n with
  | zero => intro j v hj; simp at hj
  | succ n ih =>
    rw [List.range_succ, List.map_append, List.flatten_append, Row.append]
    refine ⟨ih fun i hi => h i (by omega), ?_⟩
    have hl : ((List.range n).map g).flatten.length = n * 3 := by
      rw [flatten_length (sz := 3) (fun e he => by obtain ⟨i, _, rfl⟩ := List.mem_map.1 he; exact hg i)]
      simp
    rw [hl]
    simpa using h n (by omega)
theorem cell_lt {w : World} {b o : Nat} {v : Value} (h : w.cell? ⟨b, o, none⟩ = some v) : b < w.heap.size := by
  rcases Nat.lt_or_ge b w.heap.size with hl | hl
  · exact hl
  · unfold World.cell? at h
    simp [Array.getElem?_eq_none hl] at h

set_option maxRecDepth 100000 in
/-- A list of answers that came in. -/
theorem arg22 {H : Type} {enc : TypeId × Value → H} {W : World} {v : Value} {d : DataW H} {ps : List MemPlace} {base : Nat} (hv : Value.okWide Try.prog W .any base 22 v) (h : DataW.Trod enc Try.prog W 0 (fun _ => true) true 22 v d ps) :
    ∃ a len cap, v = .slice a len cap ∧ len ≤ maxLen ∧ (0 < len → ∃ (b o : Nat) (l : List K31), a = some ⟨b, o, none⟩ ∧ l.length = len ∧ len ≤ cap ∧ b < W.heap.size ∧ Row W b o (l.map K31.row).flatten ∧ ∀ k ∈ l, k.fits) := by
  obtain ⟨a, len, cap, rfl⟩ := okWide_slice Try.underlying22 hv
  obtain ⟨fuel, hf⟩ := h
  refine ⟨a, len, cap, rfl, ?_⟩
  rcases open_slice_fields Try.underlying22 Try.underlying36 (by kernel_rfl) (by kernel_rfl) hf with ⟨hcs, hx⟩ | ⟨a', len', cap', m, D, Pl, hcs, _, hl, hm, hmm, hx, hi⟩
  · simp [Value.cells] at hcs
    obtain ⟨rfl, rfl, rfl⟩ := hcs
    exact ⟨Nat.zero_le _, fun h => absurd h (by decide)⟩
  · simp [Value.cells] at hcs
    obtain ⟨rfl, rfl, rfl⟩ := hcs
    simp only [if_true] at hmm
    subst hmm
    refine ⟨Nat.le_trans hl hm, fun h0 => ?_⟩
    have each : ∀ i, i < len → ∃ k : K31, k.fits ∧ ∀ j, j < 3 → W.cell? (a'.add (i * 3 + j)) = k.row[j]? := by
      intro i hlt
      obtain ⟨ys, n, _, _, _, hg⟩ := hi i (by omega)
      obtain ⟨v0, y0, c0, _, t0⟩ := hg 0 _ rfl
      obtain ⟨v1, y1, c1, _, t1⟩ := hg 1 _ rfl
      obtain ⟨v2, y2, c2, _, t2⟩ := hg 2 _ rfl
      obtain ⟨z0, e0, _, w0⟩ := DataW.trod_int Try.underlying5 t0
      obtain ⟨z1, e1, _, w1⟩ := DataW.trod_int Try.underlying5 t1
      obtain ⟨z2, e2, _, w2⟩ := DataW.trod_int Try.underlying5 t2
      simp only [List.cons.injEq, and_true] at e0 e1 e2
      subst e0 e1 e2
      have w0 := u8_bounds w0
      have w1 := u8_bounds w1
      have w2 := u8_bounds w2
      refine ⟨⟨z0.toNat, z1.toNat, z2.toNat⟩, ⟨by show z0.toNat ≤ 255; omega, by show z1.toNat ≤ 255; omega, by show z2.toNat ≤ 255; omega⟩, ?_⟩
      have r0 : ((z0.toNat : Nat) : Int) = z0 := by omega
      have r1 : ((z1.toNat : Nat) : Int) = z1 := by omega
      have r2 : ((z2.toNat : Nat) : Int) = z2 := by omega
      intro j hj
      rcases (by omega : j = 0 ∨ j = 1 ∨ j = 2) with rfl | rfl | rfl
      · simpa [K31.row, r0] using c0
      · simpa [K31.row, r1] using c1
      · simpa [K31.row, r2] using c2
    have hsp : a'.spot = none := by
      obtain ⟨k, _, hk⟩ := each 0 h0
      have := hk 0 (by decide)
      rw [show 0 * 3 + 0 = 0 from rfl] at this
      have e : a'.add 0 = a' := by unfold Addr.add; rw [if_pos rfl]
      rw [e] at this
      exact World.cell?_spot this
    obtain ⟨b, o, spot⟩ := a'
    obtain rfl : spot = none := hsp
    obtain ⟨g, hg⟩ : ∃ g : Nat → K31, ∀ i, i < len → (g i).fits ∧ ∀ j, j < 3 → W.cell? ((⟨b, o, none⟩ : Addr).add (i * 3 + j)) = (g i).row[j]? :=
      ⟨fun i => if h : i < len then (each i h).choose else ⟨0, 0, 0⟩, fun i h => by simp only [dif_pos h]; exact (each i h).choose_spec⟩
    refine ⟨b, o, (List.range len).map g, rfl, by simp, hl, ?_, ?_, ?_⟩
    · have := (hg 0 h0).2 0 (by decide)
      rw [add_lit] at this
      exact cell_lt this
    · rw [List.map_map]
      refine Row.of_elems len (K31.row ∘ g) (fun _ => rfl) fun i hi' j v hj => ?_
      have hj3 : j < 3 := (List.getElem?_eq_some_iff.1 hj).1
      have := (hg i hi').2 j hj3
      rw [add_lit] at this
      rw [Nat.add_assoc, this]
      exact hj
    · intro k hk
      obtain ⟨i, hi', rfl⟩ := List.mem_map.1 hk
      exact (hg i (List.mem_range.1 hi')).1

theorem top3 (n : Nat) (v : Value) (W : World) (hn : n < 256) (a : Option Addr) (len cap : Nat) (hv : v = .slice a len cap) (hm : len ≤ maxLen) (hc : 0 < len → ∃ (b o : Nat) (l : List K31), a = some ⟨b, o, none⟩ ∧ l.length = len ∧ len ≤ cap ∧ b < W.heap.size ∧ Row W b o (l.map K31.row).flatten ∧ ∀ k ∈ l, k.fits) :
    Calls Try.prog 3 #[.int .u8 n, v] W fun e w' => e = .returned (.bool true) ∧ Below W.heap.size W w' := by
  subst hv
  rcases Nat.lt_or_ge 60 len with h | h
  · exact top3_long n a len cap W h hm
  · rcases Nat.eq_zero_or_pos len with h0 | h0
    · subst h0
      exact top3_short n a 0 cap 0 W (by decide) hn (cached6_nil _ a cap W (by omega) (by omega))
    · obtain ⟨b, o, l, rfl, hl, hlc, hb, hr, hf⟩ := hc h0
      subst hl
      exact top3_short n _ l.length cap _ W h hn (cached6_some _ l b o cap W hr hb hlc hf (by omega) (by omega) h)

set_option maxRecDepth 100000 in
theorem topReplies_lifted (os : Os) (started : os.Started) (H : Type) (enc : TypeId × Value → H) :
    ReturnsInHanded {} Try.checked os 3 .any (Rows.topRepliesSpec.pre6 enc Try.prog Try.f3 Rows.topRepliesRow.domain false) (Rows.topRepliesSpec.post enc Try.prog Try.f3 false true false false) := by
  refine returnsInHanded_of_change (C := Try.checked) Try.own started (by kernel_rfl) Try.func3
    (ChangeSpec.witness6 (enc := enc) (C := Try.checked) false ⟨#[], #[.int .u8 0, .slice none 0 0], []⟩ 8 (by kernel_rfl) (by kernel_rfl) (by kernel_rfl) (by kernel_rfl)) ?_
  intro W base args ds gs before hval0 hW hcnd _
  have hval : ∀ (j : Nat) t v, Try.f3.params[j]? = some t → args[j]? = some v → Value.okWide Try.prog W .any base t v := hval0
  have hW' := hW
  obtain ⟨p, q, hA0, hV, rfl, hfz, hnd⟩ := hW
  have hA : DataW.TrodAll enc Try.prog W 0 (fun _ => true) true Try.f3.params.toList args.toList ds p := hA0
  rw [Try.params3] at hA hval
  obtain ⟨v0, v1, d0, d1, p0, p1, rfl, rfl, rfl, h0, h1⟩ := trodAll_two hA
  obtain ⟨rfl, rfl⟩ := trodVars_none hV
  have h0' := h0
  obtain ⟨n, rfl, rfl, rfl, wn⟩ := open_int Try.underlying5 (hval 0 5 v0 rfl rfl) h0
  obtain ⟨a, len, cap, hv, hm, hc⟩ := arg22 (hval 1 22 v1 rfl rfl) h1
  clear hA0 hval0
  simp only [List.append_nil] at hW'
  have wn' := u8_bounds wn
  obtain ⟨n, rfl⟩ := Int.eq_ofNat_of_zero_le wn'.1
  refine (top3 n v1 W (by omega) a len cap hv hm hc).mono fun e W' ⟨he, hb⟩ => ?_
  subst he
  have hlt : ∀ x ∈ [] ++ p1, x.block < W.heap.size := fun x hx => hW'.lt x hx
  exact ⟨_, rfl, post_of_below (pa := [] ++ p1) (pv := []) hW' (fun _ _ _ => trodAll_mk1 (shut_bool Try.underlying4 _))
    (fun sp hsp => trodAll_mk2 (stays Try.laidOut (by kernel_rfl) (of_decide_eq_true (by kernel_rfl)) h0' hb (by simp) sp (by simp)) (stays Try.laidOut (by kernel_rfl) (of_decide_eq_true (by kernel_rfl)) h1 hb (fun x hx => hlt x (by simpa using hx)) sp (fun x hx => hsp x (by simpa using hx))))
    (fun _ _ => rfl) (by simp) hb (ok_one (by kernel_rfl) rfl (okWide_bool_mk Try.underlying4 _))⟩

theorem topReplies_holds : Rows.TopRepliesSaid :=
  OpenClaim.holds_of_wide 3 Try.f3 rfl rfl rfl rfl rfl rfl rfl ⟨rfl, rfl, rfl, rfl, rfl⟩ rfl rfl rfl rfl rfl (by kernel_rfl) Try.func3 (by kernel_rfl)
    (of_decide_eq_true (by kernel_rfl)) (by unfold Func.isWrapper; first | (rw [if_pos (by decide +kernel)]; kernel_rfl) | (rw [if_neg (by decide +kernel)]; exact ⟨rfl, rfl⟩))
    (fun os started H enc _ => topReplies_lifted os started H enc)
end Go.Proofs.Ytihfikepfhcboaa
