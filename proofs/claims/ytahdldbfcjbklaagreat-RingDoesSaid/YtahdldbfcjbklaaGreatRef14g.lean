/- posthornref14: Domains. -/
import Derived.Test.YtahdldbfcjbklaaGreatRef14f
namespace Go.Proofs.YtahdldbfcjbklaaGreat
open Go.RowKit Go.MapKept
attribute [local go_sem ↓] Go.wp_at_zero Go.wp_at_succ
abbrev NamesV (w : World) (B : Nat) (v : Value) (l : List Bs) : Prop := w.ownsRow B 9 1 v l.length (l.map vs)
theorem NamesV.cell {w : World} {B g cv : Nat} {l : List Bs} (h : NamesV w B (.slice (some ⟨g, 0, none⟩) l.length cv) l) (k : Nat) (x : Bs) (hx : l[k]? = some x) : w.cell? ⟨g, k, none⟩ = some (vs x) := by
  obtain ⟨hlt, _⟩ := List.getElem?_eq_some_iff.1 hx
  obtain ⟨g', hg, hc, _⟩ := ownsRow_some h (by omega)
  cases hg
  exact hc k (vs x) (by rw [List.getElem?_map, hx]; rfl)
theorem domR_len (L : List Rw) : (domR L).length ≤ L.length := by
  have h2 : ∀ x l, (insD x l).length ≤ l.length + 1 := by
    intro x l
    induction l with
    | nil => simp [insD]
    | cons y l ih => unfold insD; split; (simp; omega); split <;> simp
  have h3 : ∀ (L : List Rw) (out : List Bs), (L.foldl (fun out r => insD r.dom out) out).length ≤ out.length + L.length := by
    intro L
    induction L with
    | nil => intro out; simp
    | cons r L ih => intro out; have := ih (insD r.dom out); have := h2 r.dom out; simp only [List.foldl_cons, List.length_cons]; omega
  have := h3 L []
  simpa [domR] using this

theorem belowN {B : Nat} {a w : World} (h : Below B a w) (n : Nat) : Below B a (w.drewN n) := ⟨h.os, h.tape, h.output, h.size, h.block⟩
theorem NamesV.keptB {w w' : World} {B : Nat} {v : Value} {l : List Bs} (h : NamesV w B v l) (hb : Below w.heap.size w w') : NamesV w' B v l := ownsRow_chg h (S := fun _ => False) (Chg.of_below hb) (fun _ _ h => h)
theorem names_drop {w : World} {B g cv : Nat} {l : List Bs} (h : NamesV w B (.slice (some ⟨g, 0, none⟩) l.length cv) l) (k : Nat) : ∀ j u, ((l.drop k).map vs)[j]? = some u → w.cell? ((⟨g, k, none⟩ : Addr).add j) = some u := by
  intro j u hu
  have hadd : (⟨g, k, none⟩ : Addr).add j = ⟨g, k + j, none⟩ := by unfold Addr.add; split <;> simp_all
  rw [List.getElem?_map, List.getElem?_drop] at hu
  obtain ⟨x, hx, rfl⟩ := Option.map_eq_some_iff.1 hu
  rw [hadd]; exact NamesV.cell h _ x hx
theorem names_take {w : World} {B g cv : Nat} {l : List Bs} (h : NamesV w B (.slice (some ⟨g, 0, none⟩) l.length cv) l) (k : Nat) : ∀ j u, ((l.take k).map vs)[j]? = some u → w.cell? ((⟨g, 0, none⟩ : Addr).add j) = some u := by
  intro j u hu
  have hadd : (⟨g, 0, none⟩ : Addr).add j = ⟨g, j, none⟩ := by unfold Addr.add; split <;> simp_all
  rw [List.getElem?_map] at hu
  obtain ⟨x, hx, rfl⟩ := Option.map_eq_some_iff.1 hu
  rw [hadd]
  refine NamesV.cell h j x ?_
  rw [List.getElem?_take] at hx
  split at hx
  · exact hx
  · cases hx
theorem row_cells {w : World} {B g c n : Nat} {e : TypeId} {xs : List Value} (h : w.ownsRow B e 1 (.slice (some ⟨g, 0, none⟩) n c) n xs) : ∀ j u, xs[j]? = some u → w.cell? ((⟨g, 0, none⟩ : Addr).add j) = some u := fun j u hu => h.cells (g := g) rfl j u hu
theorem row_one {w : World} {B g c : Nat} {e : TypeId} {x : Value} (hB : B ≤ g) (h : w.heap[g]? = some (.cells #[x] e (0, 0))) (hc : c = 1) : w.ownsRow B e 1 (.slice (some ⟨g, 0, none⟩) 1 c) 1 [x] := by
  subst hc
  exact ⟨rfl, .inr ⟨g, 1, #[x], rfl, hB, h, Nat.le_refl _, by unfold maxLen; omega, rfl, rfl⟩⟩
theorem row_none {w : World} {B g : Nat} {e : TypeId} (hB : B ≤ g) (h : w.heap[g]? = some (.cells #[] e (0, 0))) : w.ownsRow B e 1 (.slice (some ⟨g, 0, none⟩) 0 0) 0 [] :=
  ⟨rfl, .inr ⟨g, 0, #[], rfl, hB, h, Nat.le_refl _, Nat.zero_le _, rfl, rfl⟩⟩
/-- region9 -/
theorem region9 : True := trivial

set_option maxRecDepth 100000 in
set_option maxHeartbeats 4000000 in
theorem r14_domains (F : Nat → Prop) (r b : Nat) (L : List Rw) (w : World) (h : R14At w F r b L) (hn : L.length ≤ 1000000000) :
    Calls Tryz.prog 30 #[.pointer (some ⟨r, 0, none⟩)] w fun e w' => ∃ v, e = .returned v ∧ NamesV w' w.heap.size v (domR L) ∧ Below w.heap.size w w' := by
  obtain ⟨v, hb, hv, hF⟩ := h.ex
  obtain ⟨av, cv, rfl⟩ := ownsRow_val hv
  have hblt := lt_of_heap hb
  have c1 := cell_of_row w r 1 _ _ _ hb
  simp only [List.getElem?_toArray, List.getElem?_cons_zero, List.getElem?_cons_succ] at c1
  have HV := Lib.hid hv
  clear hb hF h hv
  go_enter Tryz.func30, Tryz.ntmps30
  go_wp2
  go_loopw [3, 4] (fun o i wx => ∃ n g c : Nat, n ≤ L.length ∧ i = .int .i64 n ∧ o = .slice (some ⟨g, 0, none⟩) (domR (L.take n)).length c ∧ NamesV wx w.heap.size o (domR (L.take n)) ∧ Below w.heap.size w wx) (fun _ i _ => L.length - (intOf i).toNat)
  case atStart =>
    refine ⟨0, _, _, Nat.zero_le _, rfl, rfl, ?_, (Below.refl _ _).alloc (Nat.le_refl _) _⟩
    exact ⟨by simp [domR], .inr ⟨w.heap.size, 0, #[], rfl, Nat.le_refl _, heap_alloc_new w _, Nat.le_refl _, Nat.zero_le _, by simp, by simp [domR]⟩⟩
  case round =>
    obtain ⟨n, g, c, hnl, rfl, rfl, ho, hb⟩ := hrel
    have HO := Lib.hid ho
    have HB := Lib.hid hb
    have hsz0 := hb.size
    have c1x := cell_below hb c1
    clear ho hb
    by_cases hlt : n < L.length
    · obtain ⟨x, hx⟩ : ∃ x, L[n]? = some x := ⟨_, List.getElem?_eq_getElem hlt⟩
      obtain ⟨gL, rfl, hc, hgl, _, hcv, hcm⟩ := ownsRow_some HV.out (by omega)
      have d0 := rec_cells rwC_length hc hx 0 (by omega)
      simp only [rwC, List.getElem?_cons_zero, Nat.add_zero] at d0
      have HD := Lib.hid (show domR (L.take (n + 1)) = insD x.dom (domR (L.take n)) from by rw [List.take_add_one, hx]; exact domR_snoc _ _)
      have hdl : (domR (L.take n)).length ≤ 1000000000 := Nat.le_trans (domR_len _) (Nat.le_trans (List.length_take_le' _ _) hn)
      have b1 : (0 : Int) ≤ (n : Int) := by omega
      have b2 : (n : Int) < (L.length : Int) := by omega
      unfold maxLen at hcm
      clear hc hx
      generalize x.dom = dom at *
      generalize hout : domR (L.take n) = out at *
      have hcap : out.length ≤ c := by
        rcases HO.out.2 with ⟨h1, _⟩ | ⟨g', cap, cur, h1, _, _, h2, _⟩
        · cases h1
        · cases h1; exact h2
      have hcap2 : c ≤ 9223372036854775807 := by
        rcases HO.out.2 with ⟨h1, _⟩ | ⟨g', cap, cur, h1, _, _, h2, h3, _⟩
        · cases h1
        · cases h1; simpa [maxLen] using h3
      clear hout
      obtain ⟨wo, rfl⟩ : ∃ wo : World, wo = wr := ⟨_, rfl⟩
      have D0 := Lib.hid (cell_below HB.out d0)
      have C1 := Lib.hid c1x
      go_wp2_with fail
      go_loopw [5] (fun kk wy => ∃ k m : Nat, k ≤ out.length ∧ kk = .int .i64 k ∧ Hid (∀ q ∈ out.take k, q < dom) ∧ wy = wo.drewN m) (fun kk _ => out.length - (intOf kk).toNat)
      case atStart => exact ⟨0, 0, Nat.zero_le _, rfl, Lib.hid (by simp), rfl⟩
      case round =>
        obtain ⟨k, m, hk, rfl, HK, rfl⟩ := hrel
        have C1' := fun m => (show (wo.drewN m).cell? ⟨r, 1, none⟩ = some (.slice (some ⟨gL, 0, none⟩) L.length cv) from C1.out)
        have D0' := fun m => (show (wo.drewN m).cell? ⟨gL, n * 3, none⟩ = some (vs dom) from D0.out)
        have k0 : (0 : Int) ≤ (k : Int) := by omega
        have HONE := Lib.hid (show ∀ u ∈ [vs dom] ++ (out.drop k).map vs, u.oneCell' = true from by
          intro u hu
          rcases List.mem_append.1 hu with h | h
          · simp only [List.mem_singleton] at h; subst h; rfl
          · exact vs_one _ u h)
        by_cases hkl : k < out.length
        · obtain ⟨y, hy⟩ : ∃ y, out[k]? = some y := ⟨_, List.getElem?_eq_getElem hkl⟩
          have e0 := NamesV.cell HO.out k y hy
          have E0' := fun m => (show (wo.drewN m).cell? ⟨g, k, none⟩ = some (vs y) from e0)
          have k1 : (k : Int) < (out.length : Int) := by omega
          have k1d : decide ((k : Int) < (out.length : Int)) = true := by simp; omega
          have HY := Lib.hid hy
          clear hy e0
          by_cases hyd : y < dom
          · have hlb : ltB y dom = true := by simp [ltB, hyd]
            have HK2 := Lib.hid (show ∀ q ∈ out.take (k + 1), q < dom from by
              rw [List.take_add_one, HY.out]
              intro q hq
              rcases List.mem_append.1 hq with h | h
              · exact HK.out q h
              · simp at h; subst h; exact hyd)
            clear hyd
            go_wp2_with fail
            go_quiet (fail)
            go_wp2_with fail
            go_roundw
            case rel => exact ⟨k + 1, _, by omega, by go_num, HK2, rfl⟩
            case measure => simp [intOf]; omega
          · have hlb : ltB y dom = false := by simp [ltB, hyd]
            have HIA := Lib.hid (insD_at dom out k (by omega) HK.out (fun z hz => by rw [HY.out] at hz; cases hz; exact hyd))
            by_cases hye : y = dom
            · have HI := Lib.hid (show insD dom out = out from by rw [HIA.out, HY.out, hye]; simp)
              have hq : (y == dom) = true := by simpa using hye
              clear hyd hye HIA
              go_wp2_with fail
              go_quiet (fail)
              go_wp2_with fail
              go_quiet (fail)
              go_wp2_with fail
              go_roundw
              case rel =>
                refine ⟨n + 1, g, c, by omega, by go_num, ?_, ?_, belowN HB.out _⟩
                · rw [HD.out, HI.out]
                · rw [HD.out, HI.out]; exact NamesV.keptB HO.out (belowN (Below.refl _ wo) _)
              case measure => simp [intOf]; omega
            · have HI := Lib.hid (show insD dom out = out.take k ++ dom :: out.drop k from by rw [HIA.out, HY.out, if_neg (by simpa using hye)])
              have hq : (y == dom) = false := by simpa using hye
              have hkc : ¬ (c = k) := by omega
              have hkc2 : (k : Int) ≤ (c : Int) := by omega
              have hkc3 : (k : Int) < (c : Int) := by omega
              clear hyd hye HIA
              go_wp2_with fail
              go_quiet (fail)
              obtain ⟨n1, rfl⟩ : ∃ n1, n1 = nq := ⟨_, rfl⟩
              go_wp2_with fail
              go_quiet (fail)
              go_wp2_with fail
              obtain ⟨wz, ez⟩ : ∃ wz, wz = ((wo.drewN m).drewN n1).drewN nq := ⟨_, rfl⟩
              rw [← ez]
              have hbz : Below wo.heap.size wo wz := by rw [ez]; exact belowN (belowN (belowN (Below.refl _ wo) _) _) _
              have HBz := Lib.hid (HB.out.trans (hbz.mono hsz0))
              have HOz := Lib.hid (NamesV.keptB HO.out hbz)
              have c1z := cell_below hbz C1.out
              have d0z := cell_below hbz D0.out
              have hszz : w.heap.size ≤ wz.heap.size := by have := hbz.size; omega
              clear ez hbz C1' D0'
              go_region_law (refine step_appR Tryz.stringT rfl (.tmp 65) (.tmp 68) rfl wz.heap.size _ 1 [vs dom] (by rfl) ?hown ⟨g, k, none⟩ (out.length - k) _ ((out.drop k).map vs) (by rfl) (by simp) ?hnews (vs_one _) (by omega) (by omega) (by simp) ?_; (case hown => exact row_one (Nat.le_refl _) (heap_alloc_new wz _) rfl); (case hnews => first | exact names_drop (NamesV.keptB HOz.out ((Below.refl _ wz).alloc (Nat.le_refl _) _).drew) k | exact HNE.out (by omega)); intro v2 w2 hown2 hgrow2; have hx2 := Lib.hid hgrow2; have ho2 := Lib.hid hown2; clear hown2 hgrow2)
              all_goals
                have hb2 : Below wz.heap.size wz w2 := ((Below.refl _ wz).alloc (Nat.le_refl _) _).drew.trans (below_grown hx2.out (by simp) (fun q hq => by have h9 : some wz.heap.size = some q := hq; cases h9; exact Nat.le_refl _))
                have HB2 := Lib.hid hb2
                obtain ⟨a2, c2, rfl⟩ := ownsRow_val ho2.out
                obtain ⟨g2, rfl, hc2, hg2l, hg2b, hc2a, hc2b⟩ := ownsRow_some ho2.out (by omega)
                have HO2 := Lib.hid (NamesV.keptB HOz.out hb2)
                have hs2 := hb2.size
                clear hb2 hc2 hx2
                unfold maxLen at hc2b
                go_wp2_with (first
                  | (at_builtin; refine wpList_appR Tryz.stringT rfl (.tmp 70) (.tmp 73) rfl w2.heap.size _ 0 [] rfl (row_none (Nat.le_refl _) (heap_alloc_new w2 _)) ⟨g, 0, none⟩ k _ ((out.take k).map vs) rfl (by simp; omega) (names_take (NamesV.keptB HO2.out ((Below.refl _ w2).alloc (Nat.le_refl _) _)) k) (vs_one _) (by omega) (by omega) (by simp) ?_; intro v3 w3 hown3 hgrow3; have ho3 := Lib.hid hown3; have hb3 := Lib.hid (((Below.refl _ w2).alloc (Nat.le_refl _) _).trans (below_grown (B := w2.heap.size) hgrow3 (by simp) (fun q hq => by have h9 : some w2.heap.size = some q := hq; cases h9; exact Nat.le_refl _))); have ho2' := Lib.hid (ownsRow_chg ho2.out (S := fun _ => False) (Chg.of_below hb3.out) (fun _ _ h => h)); have hs3 := hb3.out.size; clear hown3 hgrow3)
                  | (at_builtin; refine wpList_appR Tryz.stringT rfl (.tmp 74) (.tmp 75) rfl w2.heap.size _ (0 + k) ([] ++ (out.take k).map vs) rfl ho3.out ⟨g2, 0, none⟩ (1 + (out.length - k)) _ ([vs dom] ++ (out.drop k).map vs) rfl (by simp; omega) (row_cells ho2'.out) (HONE.out) (by omega) (by omega) hs3 ?_; intro v4 w4 hown4 hgrow4; have ho4 := Lib.hid hown4; have hb4 := Lib.hid (hb3.out.trans (below_grown (B := w2.heap.size) hgrow4 hs3 (fun q hq => (ho3.out.lt q hq).1))); clear hown4 hgrow4))
                obtain ⟨a4, c4, rfl⟩ := ownsRow_val ho4.out
                obtain ⟨g4, rfl, _, _, _, _, _⟩ := ownsRow_some ho4.out (by omega)
                have hlen4 : 0 + k + (1 + (out.length - k)) = (out.take k ++ dom :: out.drop k).length := by simp; omega
                have hval4 : ([] ++ (out.take k).map vs) ++ ([vs dom] ++ (out.drop k).map vs) = (out.take k ++ dom :: out.drop k).map vs := by simp
                go_roundw
                case rel =>
                  refine ⟨n + 1, g4, c4, by omega, by go_num, ?_, ?_, HBz.out.trans ((HB2.out.mono (by omega)).trans (hb4.out.mono (by omega)))⟩
                  · rw [HD.out, HI.out, ← hlen4]
                  · rw [HD.out, HI.out]
                    have h5 := ho4.out
                    rw [hlen4, hval4] at h5
                    rw [hlen4]
                    exact ownsRow_base h5 (by omega)
                case measure => simp [intOf]; omega
        · have hkl2 : out.length ≤ k := by omega
          have HI := Lib.hid (show insD dom out = out.take k ++ dom :: out.drop k from by
            have hke : k = out.length := by omega
            subst hke
            rw [insD_at dom out out.length (Nat.le_refl _) HK.out (fun z hz => by simp at hz)]; simp)
          have k1d : decide ((k : Int) < (out.length : Int)) = false := by simp; omega
          have k2d : decide (k < out.length) = false := by simp; omega
          have HNE := Lib.hid (show out.length - k = 0 → ∀ (ad : Addr) (w : World) (j : Nat) (u : Value), ((out.drop k).map vs)[j]? = some u → w.cell? (ad.add j) = some u from fun h ad w j u hu => by
            have : (out.drop k) = [] := by rw [List.drop_eq_nil_iff]; omega
            rw [this] at hu; simp at hu)
          by_cases hkc : c = k
          · subst hkc
            have hkc2 : (c : Int) ≤ (c : Int) := by omega
            have HKL := Lib.hid hkl2
            clear hkl hkl2
            go_wp2_with fail
            go_quiet (fail)
            obtain ⟨n1, rfl⟩ : ∃ n1, n1 = nq := ⟨_, rfl⟩
            go_wp2_with fail
            go_quiet (fail)
            go_wp2_with fail
            obtain ⟨wz, ez⟩ : ∃ wz, wz = ((wo.drewN m).drewN n1).drewN nq := ⟨_, rfl⟩
            rw [← ez]
            have hbz : Below wo.heap.size wo wz := by rw [ez]; exact belowN (belowN (belowN (Below.refl _ wo) _) _) _
            have HBz := Lib.hid (HB.out.trans (hbz.mono hsz0))
            have HOz := Lib.hid (NamesV.keptB HO.out hbz)
            have c1z := cell_below hbz C1.out
            have d0z := cell_below hbz D0.out
            have hszz : w.heap.size ≤ wz.heap.size := by have := hbz.size; omega
            clear ez hbz C1' D0'
            go_region_law (refine step_appR Tryz.stringT rfl (.tmp 65) (.tmp 68) rfl wz.heap.size _ 1 [vs dom] (by rfl) ?hown ⟨g, 0, none⟩ 0 _ [] (by rfl) rfl ?hnews (by simp) (by omega) (by omega) (by simp) ?_; (case hown => exact row_one (Nat.le_refl _) (heap_alloc_new wz _) rfl); (case hnews => intro j u hu; simp at hu); intro v2 w2 hown2 hgrow2; have hx2 := Lib.hid hgrow2; have ho2 := Lib.hid (show w2.ownsRow wz.heap.size 9 1 v2 1 [vs dom] from hown2); clear hown2 hgrow2)
            all_goals
              have hb2 : Below wz.heap.size wz w2 := ((Below.refl _ wz).alloc (Nat.le_refl _) _).drew.trans (below_grown hx2.out (by simp) (fun q hq => by have h9 : some wz.heap.size = some q := hq; cases h9; exact Nat.le_refl _))
              have HB2 := Lib.hid hb2
              obtain ⟨a2, c2, rfl⟩ := ownsRow_val ho2.out
              obtain ⟨g2, rfl, hc2, hg2l, hg2b, hc2a, hc2b⟩ := ownsRow_some ho2.out (by omega)
              have HO2 := Lib.hid (NamesV.keptB HOz.out hb2)
              have hs2 := hb2.size
              clear hb2 hc2 hx2
              unfold maxLen at hc2b
              go_wp2_with (first
                | (at_builtin; refine wpList_appR Tryz.stringT rfl (.tmp 70) (.tmp 73) rfl w2.heap.size _ 0 [] rfl (row_none (Nat.le_refl _) (heap_alloc_new w2 _)) ⟨g, 0, none⟩ c _ ((out.take c).map vs) rfl (by simp; omega) (names_take (NamesV.keptB HO2.out ((Below.refl _ w2).alloc (Nat.le_refl _) _)) c) (vs_one _) (by omega) (by omega) (by simp) ?_; intro v3 w3 hown3 hgrow3; have ho3 := Lib.hid hown3; have hb3 := Lib.hid (((Below.refl _ w2).alloc (Nat.le_refl _) _).trans (below_grown (B := w2.heap.size) hgrow3 (by simp) (fun q hq => by have h9 : some w2.heap.size = some q := hq; cases h9; exact Nat.le_refl _))); have ho2' := Lib.hid (ownsRow_chg ho2.out (S := fun _ => False) (Chg.of_below hb3.out) (fun _ _ h => h)); have hs3 := hb3.out.size; clear hown3 hgrow3)
                | (at_builtin; refine wpList_appR Tryz.stringT rfl (.tmp 74) (.tmp 75) rfl w2.heap.size _ (0 + c) ([] ++ (out.take c).map vs) rfl ho3.out ⟨g2, 0, none⟩ 1 _ [vs dom] rfl rfl (row_cells ho2'.out) (by intro u hu; simp only [List.mem_singleton] at hu; subst hu; rfl) (by omega) (by omega) hs3 ?_; intro v4 w4 hown4 hgrow4; have ho4 := Lib.hid hown4; have hb4 := Lib.hid (hb3.out.trans (below_grown (B := w2.heap.size) hgrow4 hs3 (fun q hq => (ho3.out.lt q hq).1))); clear hown4 hgrow4))
              obtain ⟨a4, c4, rfl⟩ := ownsRow_val ho4.out
              obtain ⟨g4, rfl, _, _, _, _, _⟩ := ownsRow_some ho4.out (by omega)
              have hlen4 : 0 + c + 1 = (out.take c ++ dom :: out.drop c).length := by simp; omega
              have hval4 : ([] ++ (out.take c).map vs) ++ [vs dom] = (out.take c ++ dom :: out.drop c).map vs := by rw [show out.drop c = [] from List.drop_eq_nil_iff.2 (by omega)]; simp
              go_roundw
              case rel =>
                refine ⟨n + 1, g4, c4, by omega, by go_num, ?_, ?_, HBz.out.trans ((HB2.out.mono (by omega)).trans (hb4.out.mono (by omega)))⟩
                · rw [HD.out, HI.out, ← hlen4]
                · rw [HD.out, HI.out]
                  have h5 := ho4.out
                  rw [hlen4, hval4] at h5
                  rw [hlen4]
                  exact ownsRow_base h5 (by omega)
              case measure => simp [intOf]; omega
          · have hkc2 : (k : Int) ≤ (c : Int) := by omega
            have hkc3 : (k : Int) < (c : Int) := by omega
            clear hkl hkl2
            go_wp2_with fail
            go_quiet (fail)
            obtain ⟨n1, rfl⟩ : ∃ n1, n1 = nq := ⟨_, rfl⟩
            go_wp2_with fail
            go_quiet (fail)
            go_wp2_with fail
            obtain ⟨wz, ez⟩ : ∃ wz, wz = ((wo.drewN m).drewN n1).drewN nq := ⟨_, rfl⟩
            rw [← ez]
            have hbz : Below wo.heap.size wo wz := by rw [ez]; exact belowN (belowN (belowN (Below.refl _ wo) _) _) _
            have HBz := Lib.hid (HB.out.trans (hbz.mono hsz0))
            have HOz := Lib.hid (NamesV.keptB HO.out hbz)
            have c1z := cell_below hbz C1.out
            have d0z := cell_below hbz D0.out
            have hszz : w.heap.size ≤ wz.heap.size := by have := hbz.size; omega
            clear ez hbz C1' D0'
            go_region_law (refine step_appR Tryz.stringT rfl (.tmp 65) (.tmp 68) rfl wz.heap.size _ 1 [vs dom] (by rfl) ?hown ⟨g, k, none⟩ (out.length - k) _ ((out.drop k).map vs) (by rfl) (by simp) ?hnews (vs_one _) (by omega) (by omega) (by simp) ?_; (case hown => exact row_one (Nat.le_refl _) (heap_alloc_new wz _) rfl); (case hnews => first | exact names_drop (NamesV.keptB HOz.out ((Below.refl _ wz).alloc (Nat.le_refl _) _).drew) k | exact HNE.out (by omega)); intro v2 w2 hown2 hgrow2; have hx2 := Lib.hid hgrow2; have ho2 := Lib.hid hown2; clear hown2 hgrow2)
            all_goals
              have hb2 : Below wz.heap.size wz w2 := ((Below.refl _ wz).alloc (Nat.le_refl _) _).drew.trans (below_grown hx2.out (by simp) (fun q hq => by have h9 : some wz.heap.size = some q := hq; cases h9; exact Nat.le_refl _))
              have HB2 := Lib.hid hb2
              obtain ⟨a2, c2, rfl⟩ := ownsRow_val ho2.out
              obtain ⟨g2, rfl, hc2, hg2l, hg2b, hc2a, hc2b⟩ := ownsRow_some ho2.out (by omega)
              have HO2 := Lib.hid (NamesV.keptB HOz.out hb2)
              have hs2 := hb2.size
              clear hb2 hc2 hx2
              unfold maxLen at hc2b
              go_wp2_with (first
                | (at_builtin; refine wpList_appR Tryz.stringT rfl (.tmp 70) (.tmp 73) rfl w2.heap.size _ 0 [] rfl (row_none (Nat.le_refl _) (heap_alloc_new w2 _)) ⟨g, 0, none⟩ k _ ((out.take k).map vs) rfl (by simp; omega) (names_take (NamesV.keptB HO2.out ((Below.refl _ w2).alloc (Nat.le_refl _) _)) k) (vs_one _) (by omega) (by omega) (by simp) ?_; intro v3 w3 hown3 hgrow3; have ho3 := Lib.hid hown3; have hb3 := Lib.hid (((Below.refl _ w2).alloc (Nat.le_refl _) _).trans (below_grown (B := w2.heap.size) hgrow3 (by simp) (fun q hq => by have h9 : some w2.heap.size = some q := hq; cases h9; exact Nat.le_refl _))); have ho2' := Lib.hid (ownsRow_chg ho2.out (S := fun _ => False) (Chg.of_below hb3.out) (fun _ _ h => h)); have hs3 := hb3.out.size; clear hown3 hgrow3)
                | (at_builtin; refine wpList_appR Tryz.stringT rfl (.tmp 74) (.tmp 75) rfl w2.heap.size _ (0 + k) ([] ++ (out.take k).map vs) rfl ho3.out ⟨g2, 0, none⟩ (1 + (out.length - k)) _ ([vs dom] ++ (out.drop k).map vs) rfl (by simp; omega) (row_cells ho2'.out) (HONE.out) (by omega) (by omega) hs3 ?_; intro v4 w4 hown4 hgrow4; have ho4 := Lib.hid hown4; have hb4 := Lib.hid (hb3.out.trans (below_grown (B := w2.heap.size) hgrow4 hs3 (fun q hq => (ho3.out.lt q hq).1))); clear hown4 hgrow4))
              obtain ⟨a4, c4, rfl⟩ := ownsRow_val ho4.out
              obtain ⟨g4, rfl, _, _, _, _, _⟩ := ownsRow_some ho4.out (by omega)
              have hlen4 : 0 + k + (1 + (out.length - k)) = (out.take k ++ dom :: out.drop k).length := by simp; omega
              have hval4 : ([] ++ (out.take k).map vs) ++ ([vs dom] ++ (out.drop k).map vs) = (out.take k ++ dom :: out.drop k).map vs := by simp
              go_roundw
              case rel =>
                refine ⟨n + 1, g4, c4, by omega, by go_num, ?_, ?_, HBz.out.trans ((HB2.out.mono (by omega)).trans (hb4.out.mono (by omega)))⟩
                · rw [HD.out, HI.out, ← hlen4]
                · rw [HD.out, HI.out]
                  have h5 := ho4.out
                  rw [hlen4, hval4] at h5
                  rw [hlen4]
                  exact ownsRow_base h5 (by omega)
              case measure => simp [intOf]; omega
    · obtain rfl : n = L.length := by omega
      have HL := Lib.hid (show L.take L.length = L from List.take_length)
      have h5 := HO.out
      rw [HL.out] at h5
      have HO5 := Lib.hid h5
      clear h5
      go_wp2_with fail
      go_ret
      refine ⟨_, rfl, ?_, HB.out⟩
      show NamesV _ _ (.slice (some ⟨g, 0, none⟩) (domR (L.take L.length)).length c) (domR L)
      rw [HL.out]; exact HO5.out
end Go.Proofs.YtahdldbfcjbklaaGreat
