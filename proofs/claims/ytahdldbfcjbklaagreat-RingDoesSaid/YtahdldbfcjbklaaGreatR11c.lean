/- posthornref11: done. -/
import Derived.Test.YtahdldbfcjbklaaGreatR11b
import Derived.Test.YtahdldbfcjbklaaGreatDisk8
namespace Go.Proofs.YtahdldbfcjbklaaGreat
open Go.RowKit
attribute [local go_sem ↓] Go.wp_at_zero Go.wp_at_succ
theorem Tryz.infoEvent11 : (Tryz.prog.info? 92).map (fun i => (i.zero, i.size, i.bytes)) = some (some (.agg #[.int .i64 0, vs [], vs [], vs []]), 4, 56) := by kernel_rfl
theorem Tryz.event11T : ElemT Tryz.prog 64 92 (.agg #[.int .i64 0, vs [], vs [], vs []]) 4 56 := ⟨Tryz.underlying64, Tryz.infoEvent11, rfl, by decide⟩
theorem evCells_one (l : List Ev) : ∀ u ∈ evCells l, u.oneCell' = true := by
  intro u hu; obtain ⟨p, _, hp⟩ := List.mem_flatMap.1 hu
  simp only [Ev.cells, List.mem_cons, List.not_mem_nil, or_false] at hp; rcases hp with rfl | rfl | rfl | rfl <;> rfl
theorem ev_one (e : Ev) : ∀ u ∈ e.cells, u.oneCell' = true := by
  intro u hp
  simp only [Ev.cells, List.mem_cons, List.not_mem_nil, or_false] at hp; rcases hp with rfl | rfl | rfl | rfl <;> rfl
theorem EvsAt.keptB {w w' : World} {B : Nat} {v : Value} {l : List Ev} (h : EvsAt w B v l) (hb : Below w.heap.size w w') : EvsAt w' B v l := ownsRow_chg h (S := fun _ => False) (Chg.of_below hb) (fun _ _ h => h)

/-- what 'd.x = append(append([]Event{}, d.x...), e)' leaves -/
theorem r11_after {w1 w3 : World} {b i : Nat} {C : Array Value} {v : Value} {l : List Ev} {e : Ev} (hb1 : w1.heap[b]? = some (.cells C 66 (0, 0))) (hB : Below w1.heap.size w1 w3)
    (hown : w3.ownsRow w1.heap.size 92 4 v (l.length + 1) (evCells l ++ e.cells)) :
    (w3.setCell ⟨b, i, none⟩ v).heap[b]? = some (.cells (C.setIfInBounds i v) 66 (0, 0)) ∧ EvsAt (w3.setCell ⟨b, i, none⟩ v) w1.heap.size v (l ++ [e]) ∧ Chg (· = b) w1 (w3.setCell ⟨b, i, none⟩ v) := by
  have hlt := lt_of_heap hb1
  have hb3 := (hB.block b hlt).trans hb1
  refine ⟨heap_setCell_same _ _ _ _ _ _ hb3, ?_, (Chg.of_below (S := (· = b)) hB).setCell (p := ⟨b, i, none⟩) (fun _ => rfl) _⟩
  show World.ownsRow _ _ _ _ _ _ _
  rw [show (l ++ [e]).length = l.length + 1 from by simp, evCells_snoc]
  exact ownsRow_chg hown (chg1 w3 b i v) (fun k hk e => by have := (hown.lt k hk).1; omega)
theorem FilesAt.chg {w w' : World} {B b : Nat} {v : Value} {l : Files} (h : FilesAt w B v l) (hc : Chg (· = b) w w') {C : Array Value} (hb : w.heap[b]? = some (.cells C 66 (0, 0))) : FilesAt w' B v l :=
  ownsRow_chg h hc (fun k hk ek => own_ne h hb (by decide) (by rw [hk, ek]))
theorem EvsAt.chg {w w' : World} {B b : Nat} {v : Value} {l : List Ev} (h : EvsAt w B v l) (hc : Chg (· = b) w w') {C : Array Value} (hb : w.heap[b]? = some (.cells C 66 (0, 0))) : EvsAt w' B v l :=
  ownsRow_chg h hc (fun k hk ek => own_ne h hb (by decide) (by rw [hk, ek]))

set_option maxRecDepth 100000 in
set_option maxHeartbeats 4000000 in
theorem r11_done_live (F : Nat → Prop) (b : Nat) (d : DS) (w : World) (h : R11At w F b d) (hd : d.dead = false) (hf : d.fuse ≠ 0) (hlf : -9223372036854775808 ≤ d.fuse ∧ d.fuse ≤ 9223372036854775807) (hlen : d.trace.length ≤ 1000000000) (hlen2 : d.pend.length ≤ 1000000000) (hnow : d.now.length ≤ 900000000) (op : Nat) (name to_ data : Bs) (hop : op = 1 ∨ op = 2 ∨ op = 3 ∨ op = 4 ∨ op = 5) (hsz : op ≠ 5 → (dataF d.now name).length + data.length ≤ 1099511627776) :
    Calls Tryz.prog 68 #[.pointer (some ⟨b, 0, none⟩), .agg #[.int .i64 op, vs name, vs to_, vs data]] w fun r w' => r = .returned (.int .i64 0) ∧ R11To w F b (d.done ⟨op, name, to_, data⟩).1 w' := by
  have H := Lib.hid h
  have hwl : F w.heap.size → False := fun h1 => by have := h.lt _ h1; omega
  have HWL := Lib.hid hwl
  obtain ⟨⟨vN, vS, vP, vT, hb, hN, hS, hP, hT, hF⟩, s1, s2⟩ := h
  have hblt := lt_of_heap hb
  have c5 := cell_of_row w b 5 _ _ _ hb
  have c6 := cell_of_row w b 6 _ _ _ hb
  have f5 := frozen_of_row w b 5 _ _ hb
  have HBB := Lib.hid hb
  have HN := Lib.hid hN; have HS := Lib.hid hS; have HP := Lib.hid hP; have HT := Lib.hid hT; have HF := Lib.hid hF; have S1 := Lib.hid s1; have S2 := Lib.hid s2
  simp only [List.getElem?_toArray, List.getElem?_cons_zero, List.getElem?_cons_succ] at c5 c6
  rw [hd] at c6
  have hf' : (d.fuse == 0) = false := by simpa using hf
  clear hb hN hS hP hT hF hwl s1 s2
  go_enter Tryz.func68, Tryz.ntmps68
  go_upto_if 21 with (fail)
  go_cut [] (fun w1 => w1.heap[b]? = some (.cells #[vN, vS, vP, vT, .int .i64 d.quota, .int .i64 d.burnt.fuse, .bool d.dead] 66 (0, 0)) ∧ w1.heap[w.heap.size]? = some (.cells #[.int .i64 op, vs name, vs to_, vs data] 92 (0, 0)) ∧ Chg (· = b) w w1)
  case first =>
    by_cases hpos : 0 < d.fuse
    · go_wp2_with fail
      go_meet
      case rel =>
        have := heap_setCell_same _ _ 5 _ _ (.int .i64 (d.fuse - 1)) HBB.out
        refine ⟨?_, ?_, ((Chg.refl (· = b) w).setCell (p := ⟨b, 5, none⟩) (fun _ => rfl) _).alloc _⟩
        · refine (heap_alloc_old _ _ (by simpa [World.setCell] using hblt)).trans ?_
          rw [show d.burnt.fuse = d.fuse - 1 from by simp [DS.burnt, hpos]]; exact this
        · have := heap_alloc_new (w.setCell ⟨b, 5, none⟩ (.int .i64 (d.fuse - 1))) (.cells #[.int .i64 op, vs name, vs to_, vs data] 92)
          simpa [World.setCell] using this
    · go_wp2_with fail
      go_meet
      case rel =>
        have := HBB.out
        refine ⟨?_, heap_alloc_new w _, (Chg.refl _ w).alloc _⟩
        refine (heap_alloc_old _ _ hblt).trans ?_
        simpa only [DS.burnt, if_neg (show ¬ 0 < d.fuse from by omega)] using this
  case rest =>
    obtain ⟨w1, rfl⟩ : ∃ w1, w1 = wc := ⟨_, rfl⟩
    obtain ⟨hb1, hbox, hch1⟩ := hcut
    have HB1 := Lib.hid hb1
    have HX1 := Lib.hid hbox
    have HC1 := Lib.hid hch1
    have hFb : ∀ {v : Value} {n : Nat} {xs : List Value} {e : TypeId} {s : Nat}, w.ownsRow 0 e s v n xs → e ≠ 66 → ∀ k, v.ownBlock = some k → k ≠ b := fun hv he k hk ek => own_ne hv HBB.out (Ne.symm he) (by rw [hk, ek])
    have HN1 := Lib.hid (ownsRow_chg HN.out hch1 (hFb HN.out (by decide)))
    have HS1 := Lib.hid (ownsRow_chg HS.out hch1 (hFb HS.out (by decide)))
    have HP1 := Lib.hid (ownsRow_chg HP.out hch1 (hFb HP.out (by decide)))
    have HT1 := Lib.hid (ownsRow_chg HT.out hch1 (hFb HT.out (by decide)))
    clear hb1 hbox hch1 c5 c6 f5 hFb
    go_upto_region 6 with (fail)
    go_cut [] (fun w3 => ∃ vT3 : Value, w3.heap[b]? = some (.cells #[vN, vS, vP, vT3, .int .i64 d.quota, .int .i64 d.burnt.fuse, .bool d.dead] 66 (0, 0)) ∧ w3.heap[w.heap.size]? = some (.cells #[.int .i64 op, vs name, vs to_, vs data] 92 (0, 0)) ∧ EvsAt w3 w1.heap.size vT3 (d.trace ++ [⟨op, name, to_, data⟩]) ∧ Chg (· = b) w1 w3)
    case first =>
      have hone := Lib.hid (evCells_one d.trace)
      have hone1 := Lib.hid (ev_one ⟨op, name, to_, data⟩)
      have hbox := HX1.out
      have hbk := HB1.out
      have g0 := cell_of_row w1 _ 0 _ _ _ hbox
      have g1 := cell_of_row w1 _ 1 _ _ _ hbox
      have g2 := cell_of_row w1 _ 2 _ _ _ hbox
      have g3 := cell_of_row w1 _ 3 _ _ _ hbox
      have k3 := cell_of_row w1 b 3 _ _ _ hbk
      have hfr3 := frozen_of_row w1 b 3 _ _ hbk
      have hblt1 := lt_of_heap hbk
      have hxlt1 := lt_of_heap hbox
      simp only [List.getElem?_toArray, List.getElem?_cons_zero, List.getElem?_cons_succ] at g0 g1 g2 g3 k3
      have l1 : d.trace.length ≤ 1000000000000 := by omega
      have l2 : d.trace.length * 56 ≤ 140737488355328 := by omega
      have l3 : d.trace.length + 1 ≤ 1000000000000 := by omega
      have l4 : (d.trace.length + 1) * 56 ≤ 140737488355328 := by omega
      clear hbox hbk
      go_region_law (first | (refine step_app0 Tryz.event11T rfl (.tmp 30) (.tmp 34) rfl w1.heap.size _ (by rfl) ?hB ?hg0 (by first | (simp; done) | (simp; omega)) vT d.trace.length (evCells d.trace) (by rfl) ?hrow hone.out l1 l2 ?_; (case hB => first | (simp; done) | (simp; omega)); (case hg0 => first | exact heap_alloc_new _ _ | exact heap_al2_new _ _ _ | exact heap_al2_old _ _ _); (case hrow => first | exact ownsRow_chg HT1.out (S := fun _ => False) ((Chg.refl _ w1).alloc _).drew (fun _ _ h => h) | exact ownsRow_chg HT1.out (S := fun _ => False) (((Chg.refl _ w1).alloc _).alloc _).drew (fun _ _ h => h)); intro v2 w2 hown2 hch2; have hx2 := Lib.hid hch2; have ho2 := Lib.hid hown2; clear hch2 hown2; have hb2 := Lib.hid (show Below w1.heap.size w1 w2 from by first | exact ((Below.refl _ w1).alloc (Nat.le_refl _) _).drew.trans (hx2.out.below (by first | (simp; done) | (simp; omega)) (fun k hk => by subst hk; first | (simp; done) | (simp; omega))) | exact (((Below.refl _ w1).alloc (Nat.le_refl _) _).alloc (by simp) _).drew.trans (hx2.out.below (by first | (simp; done) | (simp; omega)) (fun k hk => by subst hk; first | (simp; done) | (simp; omega)))); have j0 := cell_below hb2.out g0; have j1 := cell_below hb2.out g1; have j2 := cell_below hb2.out g2; have j3 := cell_below hb2.out g3; have hs2 := hb2.out.size) | (refine step_app Tryz.event11T rfl (.tmp 35) (.tmp 37) rfl w1.heap.size _ d.trace.length (evCells d.trace) (by rfl) ?hown _ 1 1 (Ev.cells ⟨op, name, to_, data⟩) (0, 0) (by rfl) ?hg rfl hone1.out Nat.zero_lt_one l3 l4 ?hbw ?_; (case hown => exact ownsRow_chg ho2.out (S := fun _ => False) ((Chg.refl _ w2).alloc _) (fun _ _ h => h)); (case hg => exact heap_alloc_new _ _); (case hbw => simp; omega); intro g' cv' w3 hown3 hgrow3 hg3; have hx3 := Lib.hid hgrow3; have ho3 := Lib.hid hown3; have hB3 := Lib.hid (below_app (hb2.out.alloc hs2 _) (ownsRow_chg ho2.out (S := fun _ => False) ((Chg.refl _ w2).alloc _) (fun _ _ h => h)) hgrow3 (by simp; omega)); have k3' := cell_below hB3.out k3; have hfr3' := (hB3.out.frozen (p := ⟨b, 3, none⟩) hblt1).trans hfr3; clear hown3 hgrow3 hg3) | (refine step_app Tryz.event11T rfl (.tmp 35) (.tmp 37) rfl w1.heap.size _ d.trace.length (evCells d.trace) (by rfl) ?hown _ 1 1 (Ev.cells ⟨op, name, to_, data⟩) (0, 0) (by rfl) ?hg rfl hone1.out Nat.zero_lt_one l3 l4 ?hbw ?_; (case hown => exact ho2.out); (case hg => first | exact (hx2.out.block _ (by first | (simp; done) | (simp; omega)) (by first | (simp; done) | (simp; omega))).trans (heap_al2_new _ _ _) | exact (hx2.out.block _ (by first | (simp; done) | (simp; omega)) (by first | (simp; done) | (simp; omega))).trans (heap_al2_old _ _ _)); (case hbw => exact hs2); intro g' cv' w3 hown3 hgrow3 hg3; have hx3 := Lib.hid hgrow3; have ho3 := Lib.hid hown3; have hB3 := Lib.hid (below_app hb2.out ho2.out hgrow3 hs2); have k3' := cell_below hB3.out k3; have hfr3' := (hB3.out.frozen (p := ⟨b, 3, none⟩) hblt1).trans hfr3; clear hown3 hgrow3 hg3))
      all_goals
        go_wp2_with fail
        go_meet
        case rel =>
          obtain ⟨q1, q2, q3⟩ := r11_after (i := 3) HB1.out hB3.out ho3.out
          exact ⟨_, q1, (q3.block _ hxlt1 (by omega)).trans HX1.out, q2, q3⟩
    case rest =>
      obtain ⟨w3, rfl⟩ : ∃ w3, w3 = wc := ⟨_, rfl⟩
      obtain ⟨vT3, hb3, hbox3, hT3, hch3⟩ := hcut
      have HB3 := Lib.hid hb3
      have HX3 := Lib.hid hbox3
      have HT3 := Lib.hid hT3
      have HC3 := Lib.hid (HC1.out.trans hch3)
      have HN3 := Lib.hid (FilesAt.chg HN1.out hch3 HB1.out)
      have HS3 := Lib.hid (FilesAt.chg HS1.out hch3 HB1.out)
      have HP3 := Lib.hid (EvsAt.chg HP1.out hch3 HB1.out)
      have hsz1 := HC1.out.size
      have hsz3 := hch3.size
      have hblt3 := lt_of_heap hb3
      have hxlt3 := lt_of_heap hbox3
      have FT := Lib.hid (fun k (hk : vT3.ownBlock = some k) => (hT3.lt k hk).1)
      have hN0 := Lib.hid (fun k (hk : vN.ownBlock = some k) => (.inl ((HF.out k).2 (.inr (.inl hk))) : F k ∨ w.heap.size ≤ k))
      have hS0 := Lib.hid (fun k (hk : vS.ownBlock = some k) => (.inl ((HF.out k).2 (.inr (.inr (.inl hk)))) : F k ∨ w.heap.size ≤ k))
      clear HB1 HX1 HN1 HS1 HP1 HT1 hch3 hT3
      have j0 := cell_of_row w3 _ 0 _ _ _ hbox3
      have j1 := cell_of_row w3 _ 1 _ _ _ hbox3
      have j2 := cell_of_row w3 _ 2 _ _ _ hbox3
      have j3 := cell_of_row w3 _ 3 _ _ _ hbox3
      have i0 := cell_of_row w3 b 0 _ _ _ hb3
      have i1 := cell_of_row w3 b 1 _ _ _ hb3
      have i2 := cell_of_row w3 b 2 _ _ _ hb3
      have u0 := frozen_of_row w3 b 0 _ _ hb3
      have u1 := frozen_of_row w3 b 1 _ _ hb3
      have u2 := frozen_of_row w3 b 2 _ _ hb3
      simp only [List.getElem?_toArray, List.getElem?_cons_zero, List.getElem?_cons_succ] at j0 j1 j2 j3 i0 i1 i2
      by_cases h5 : op = 5
      · subst h5
        obtain ⟨aN, cN, rfl⟩ := ownsRow_val HN3.out
        have hD : (d.done ⟨5, name, to_, data⟩).1 = { d.burnt with trace := d.trace ++ [⟨5, name, to_, data⟩], sure := d.now, pend := [] } := by simp [DS.done, hd, hf]
        have HD := Lib.hid hD
        clear hbox3 hb3 hD hf' hd hf
        go_wp2_with fail
        go_ret
        have q1 : Chg (· = b) w3 ((w3.setCell ⟨b, 1, none⟩ (.slice aN d.now.length cN)).setCell ⟨b, 2, none⟩ (.slice none 0 0)) := chg2 w3 b 1 2 _ _
        refine ⟨rfl, ?_⟩
        rw [HD.out]
        refine H.out.set (HC3.out.trans q1) (heap_setCell_same _ _ _ _ _ _ (heap_setCell_same _ _ _ _ _ _ HB3.out)) (FilesAt.chg HN3.out q1 HB3.out) (FilesAt.chg HN3.out q1 HB3.out) (World.ownsRow_nil _ _ _ _) (ownsRow_base (EvsAt.chg HT3.out q1 HB3.out) (Nat.zero_le _)) S1.out S1.out hN0.out hN0.out (fun k hk => by cases hk) (fun k hk => .inr (by have := FT.out k hk; omega))
      · have hop' : op = 1 ∨ op = 2 ∨ op = 3 ∨ op = 4 := by omega
        have hop5 : ((op : Int) == 5) = false := by rw [beq_eq_false_iff_ne]; omega
        have hD : (d.done ⟨op, name, to_, data⟩).1 = { d.burnt with trace := d.trace ++ [⟨op, name, to_, data⟩], now := doF d.now ⟨op, name, to_, data⟩, pend := d.pend ++ [⟨op, name, to_, data⟩] } := by simp [DS.done, hd, hf, h5]
        have HD := Lib.hid hD
        have HDO := fun w' hw => Lib.hid (r11_do d.now S1.out vN ⟨op, name, to_, data⟩ w' hw hnow hop' (hsz h5))
        clear hbox3 hb3 hD hf' hd hf
        go_upto_region 12 with (fail)
        go_cut [] (fun w4 => ∃ vN4 : Value, w4.heap[b]? = some (.cells #[vN4, vS, vP, vT3, .int .i64 d.quota, .int .i64 d.burnt.fuse, .bool d.dead] 66 (0, 0)) ∧ w4.heap[w.heap.size]? = some (.cells #[.int .i64 op, vs name, vs to_, vs data] 92 (0, 0)) ∧ FilesAt w4 0 vN4 (doF d.now ⟨op, name, to_, data⟩) ∧ (∀ k, vN4.ownBlock = some k → F k ∨ w.heap.size ≤ k) ∧ Chg (· = b) w3 w4)
        case first =>
          go_region_with (go_at_call 45; refine (HDO _ (FilesAt.keptB HN3.out (Below.refl _ _).drew)).out.mono ?_; rintro r w4 ⟨v4, rfl, hf4, hn4, hb4⟩; obtain ⟨a4, c4, rfl⟩ := ownsRow_val hf4; have hb4' := below_undrew hb4; have k0' := cell_below hb4' i0; have hfr0' := (hb4'.frozen (p := ⟨b, 0, none⟩) hblt3).trans u0)
          all_goals
            go_wp2_with fail
            go_meet
            case rel =>
              have q1 : Chg (· = b) w3 (w4.setCell ⟨b, 0, none⟩ (.slice a4 (doF d.now ⟨op, name, to_, data⟩).length c4)) := (Chg.of_below (S := (· = b)) hb4').setCell (p := ⟨b, 0, none⟩) (fun _ => rfl) _
              have hb4b := (hb4'.block b hblt3).trans HB3.out
              refine ⟨_, heap_setCell_same _ _ _ _ _ _ hb4b, (q1.block _ hxlt3 (by omega)).trans HX3.out, FilesAt.chg hf4 (chg1 w4 b 0 _) hb4b, fun k hk => ?_, q1⟩
              rcases hn4 k hk with h1 | h1
              · exact hN0.out k h1
              · right; have h2 : w3.heap.size ≤ k := h1; omega
        case rest =>
          obtain ⟨w4, rfl⟩ : ∃ w4, w4 = wc := ⟨_, rfl⟩
          obtain ⟨vN4, hb4, hbox4, hN4, hFN4, hch4⟩ := hcut
          have HB4 := Lib.hid hb4
          have HX4 := Lib.hid hbox4
          have HN4 := Lib.hid hN4
          have HFN4 := Lib.hid hFN4
          have HC4 := Lib.hid (HC3.out.trans hch4)
          have HS4 := Lib.hid (FilesAt.chg HS3.out hch4 HB3.out)
          have HP4 := Lib.hid (EvsAt.chg HP3.out hch4 HB3.out)
          have HT4 := Lib.hid (EvsAt.chg HT3.out hch4 HB3.out)
          have hsz4 := hch4.size
          have hblt4 := lt_of_heap hb4
          have hxlt4 := lt_of_heap hbox4
          have k2 := cell_of_row w4 b 2 _ _ _ hb4
          have hfr2 := frozen_of_row w4 b 2 _ _ hb4
          have y0 := cell_of_row w4 _ 0 _ _ _ hbox4
          have y1 := cell_of_row w4 _ 1 _ _ _ hbox4
          have y2 := cell_of_row w4 _ 2 _ _ _ hbox4
          have y3 := cell_of_row w4 _ 3 _ _ _ hbox4
          simp only [List.getElem?_toArray, List.getElem?_cons_zero, List.getElem?_cons_succ] at y0 y1 y2 y3 k2
          have honeP := Lib.hid (evCells_one d.pend)
          have hone1 := Lib.hid (ev_one ⟨op, name, to_, data⟩)
          have m1 : d.pend.length ≤ 1000000000000 := by omega
          have m2 : d.pend.length * 56 ≤ 140737488355328 := by omega
          have m3 : d.pend.length + 1 ≤ 1000000000000 := by omega
          have m4 : (d.pend.length + 1) * 56 ≤ 140737488355328 := by omega
          clear hb4 hbox4 hN4 hFN4 hch4 j0 j1 j2 j3 i0 i1 i2 u0 u1 u2 HB3 HX3 HT3 HC3 HN3 HS3 HP3 HDO hN0 hop hop' hop5 hsz
          go_wp2_with fail
          go_region_law (first | (refine step_app0 Tryz.event11T rfl (.tmp 64) (.tmp 68) rfl w4.heap.size _ (by rfl) ?hB ?hg0 (by first | (simp; done) | (simp; omega)) vP d.pend.length (evCells d.pend) (by rfl) ?hrow honeP.out m1 m2 ?_; (case hB => first | (simp; done) | (simp; omega)); (case hg0 => first | exact heap_alloc_new _ _ | exact heap_al2_new _ _ _ | exact heap_al2_old _ _ _); (case hrow => first | exact ownsRow_chg HP4.out (S := fun _ => False) ((Chg.refl _ w4).alloc _).drew (fun _ _ h => h) | exact ownsRow_chg HP4.out (S := fun _ => False) (((Chg.refl _ w4).alloc _).alloc _).drew (fun _ _ h => h)); intro v2 w2 hown2 hch2; have hx2 := Lib.hid hch2; have ho2 := Lib.hid hown2; clear hch2 hown2; have hb2 := Lib.hid (show Below w4.heap.size w4 w2 from by first | exact ((Below.refl _ w4).alloc (Nat.le_refl _) _).drew.trans (hx2.out.below (by first | (simp; done) | (simp; omega)) (fun k hk => by subst hk; first | (simp; done) | (simp; omega))) | exact (((Below.refl _ w4).alloc (Nat.le_refl _) _).alloc (by simp) _).drew.trans (hx2.out.below (by first | (simp; done) | (simp; omega)) (fun k hk => by subst hk; first | (simp; done) | (simp; omega)))); have j0 := cell_below hb2.out y0; have j1 := cell_below hb2.out y1; have j2 := cell_below hb2.out y2; have j3 := cell_below hb2.out y3; have hs2 := hb2.out.size) | (refine step_app Tryz.event11T rfl (.tmp 69) (.tmp 71) rfl w4.heap.size _ d.pend.length (evCells d.pend) (by rfl) ?hown _ 1 1 (Ev.cells ⟨op, name, to_, data⟩) (0, 0) (by rfl) ?hg rfl hone1.out Nat.zero_lt_one m3 m4 ?hbw ?_; (case hown => exact ownsRow_chg ho2.out (S := fun _ => False) ((Chg.refl _ w2).alloc _) (fun _ _ h => h)); (case hg => exact heap_alloc_new _ _); (case hbw => simp; omega); intro g' cv' w3 hown3 hgrow3 hg3; have hx3 := Lib.hid hgrow3; have ho3 := Lib.hid hown3; have hB3 := Lib.hid (below_app (hb2.out.alloc hs2 _) (ownsRow_chg ho2.out (S := fun _ => False) ((Chg.refl _ w2).alloc _) (fun _ _ h => h)) hgrow3 (by simp; omega)); have k3' := cell_below hB3.out k2; have hfr3' := (hB3.out.frozen (p := ⟨b, 2, none⟩) hblt4).trans hfr2; clear hown3 hgrow3 hg3) | (refine step_app Tryz.event11T rfl (.tmp 69) (.tmp 71) rfl w4.heap.size _ d.pend.length (evCells d.pend) (by rfl) ?hown _ 1 1 (Ev.cells ⟨op, name, to_, data⟩) (0, 0) (by rfl) ?hg rfl hone1.out Nat.zero_lt_one m3 m4 ?hbw ?_; (case hown => exact ho2.out); (case hg => first | exact (hx2.out.block _ (by first | (simp; done) | (simp; omega)) (by first | (simp; done) | (simp; omega))).trans (heap_al2_new _ _ _) | exact (hx2.out.block _ (by first | (simp; done) | (simp; omega)) (by first | (simp; done) | (simp; omega))).trans (heap_al2_old _ _ _)); (case hbw => exact hs2); intro g' cv' w3 hown3 hgrow3 hg3; have hx3 := Lib.hid hgrow3; have ho3 := Lib.hid hown3; have hB3 := Lib.hid (below_app hb2.out ho2.out hgrow3 hs2); have k3' := cell_below hB3.out k2; have hfr3' := (hB3.out.frozen (p := ⟨b, 2, none⟩) hblt4).trans hfr2; clear hown3 hgrow3 hg3))
          all_goals
            go_wp2_with fail
            go_ret
            obtain ⟨q1, q2, q3⟩ := r11_after (i := 2) HB4.out hB3.out ho3.out
            have q4 := HC4.out.trans q3
            refine ⟨rfl, ?_⟩
            rw [HD.out]
            refine H.out.set q4 q1 (FilesAt.chg HN4.out q3 HB4.out) (FilesAt.chg HS4.out q3 HB4.out) (ownsRow_base q2 (Nat.zero_le _)) (ownsRow_base (EvsAt.chg HT4.out q3 HB4.out) (Nat.zero_le _)) (doF_sorted S1.out _) S2.out HFN4.out hS0.out (fun k hk => .inr (by have := (q2.lt k hk).1; omega)) (fun k hk => .inr (by have := FT.out k hk; omega))
end Go.Proofs.YtahdldbfcjbklaaGreat
