/- posthornref14: Domains; posthornref08.Same. -/
import Derived.Test.YtahdldbfcjbklaaGreatRef14e
namespace Go.Proofs.YtahdldbfcjbklaaGreat
open Go.RowKit Go.MapKept
attribute [local go_sem ↓] Go.wp_at_zero Go.wp_at_succ
theorem Tryz.infoString : (Tryz.prog.info? 9).map (fun i => (i.zero, i.size, i.bytes)) = some (some (vs []), 1, 16) := by kernel_rfl
theorem Tryz.stringT : ElemT Tryz.prog 54 9 (vs []) 1 16 := ⟨Tryz.underlying54, Tryz.infoString, rfl, by decide⟩
/-- append at a step of a region that draws: what is appended may be nothing -/
theorem step_appR {P : Program} {t e : TypeId} {z : Value} {size bytes : Nat} (T : ElemT P t e z size bytes) {w : World} {ops : Array Oper} {o : Oper} {a : Act} {K : Act → World → Prop} {Q : Exit → Act → World → Prop} {E : Prop}
    (hgd : o.guard = none) (s x : Operand) (ho : o.op = .call { callee := .builtin .append, args := #[s, x], argTypes := #[t, t] })
    (base : Nat) (v : Value) (n : Nat) (xs : List Value) (hs : a.eval s = v) (hown : w.ownsRow base e size v n xs)
    (ad : Addr) (m c : Nat) (news : List Value) (hx : a.eval x = .slice (some ad) m c) (hl : news.length = m * size) (hnews : ∀ j u, news[j]? = some u → w.cell? (ad.add j) = some u) (h1 : ∀ u ∈ news, u.oneCell' = true)
    (h63 : n + m ≤ 1000000000000) (hbytes : (n + m) * bytes ≤ 140737488355328) (hbase : base ≤ w.heap.size)
    (h : ∀ v' w', w'.ownsRow base e size v' (n + m) (xs ++ news) → w.grownBy w' v.ownBlock → K (a.put o.dst v') w') :
    if Region.wanted o (yielded ops a.tmps) = true then Oper.wp P o a w K Q else E := by
  rw [if_pos (by simp [Region.wanted, hgd])]
  obtain ⟨i, hi, hz, hsz, hby⟩ := info_parts T.hi
  obtain ⟨v', w', hr, h2, h3, _⟩ := run_append_own_at (P := P) w base t o.type e i z size bytes T.ht hi hz hsz hby T.hz T.hs v n xs hown ad m c news hl hnews h1 (by unfold maxLen; omega) hbytes hbase
  unfold Oper.wp execOp
  simp only [ho, resolve, invoke, builtin, Sem.run_bind, Sem.run_pure, Result.andThen_ok, List.map_toArray, List.map_cons, List.map_nil, hs, hx, hr]
  exact h v' w' h2 h3
theorem wpList_appR {P : Program} {t e : TypeId} {z : Value} {size bytes : Nat} (T : ElemT P t e z size bytes) {w : World} {ops : Array Oper} {rest : List Oper} {o : Oper} {a : Act} {Q : Exit → Act → World → Prop}
    (hgd : o.guard = none) (s x : Operand) (ho : o.op = .call { callee := .builtin .append, args := #[s, x], argTypes := #[t, t] })
    (base : Nat) (v : Value) (n : Nat) (xs : List Value) (hs : a.eval s = v) (hown : w.ownsRow base e size v n xs)
    (ad : Addr) (m c : Nat) (news : List Value) (hx : a.eval x = .slice (some ad) m c) (hl : news.length = m * size) (hnews : ∀ j u, news[j]? = some u → w.cell? (ad.add j) = some u) (h1 : ∀ u ∈ news, u.oneCell' = true)
    (h63 : n + m ≤ 1000000000000) (hbytes : (n + m) * bytes ≤ 140737488355328) (hbase : base ≤ w.heap.size)
    (h : ∀ v' w', w'.ownsRow base e size v' (n + m) (xs ++ news) → w.grownBy w' v.ownBlock → wpList P ops Q rest (a.put o.dst v') w') :
    wpList P ops Q (o :: rest) a w := by
  refine wpList_plain hgd fun _ hK => ?_
  obtain ⟨i, hi, hz, hsz, hby⟩ := info_parts T.hi
  obtain ⟨v', w', hr, h2, h3, _⟩ := run_append_own_at (P := P) w base t o.type e i z size bytes T.ht hi hz hsz hby T.hz T.hs v n xs hown ad m c news hl hnews h1 (by unfold maxLen; omega) hbytes hbase
  unfold Oper.wp execOp
  simp only [ho, resolve, invoke, builtin, Sem.run_bind, Sem.run_pure, Result.andThen_ok, List.map_toArray, List.map_cons, List.map_nil, hs, hx, hr]
  exact hK _ _ (h v' w' h2 h3)
theorem vs_one (l : List Bs) : ∀ u ∈ l.map vs, u.oneCell' = true := by
  intro u hu; obtain ⟨p, _, rfl⟩ := List.mem_map.1 hu; rfl
theorem insD_at (x : Bs) (out : List Bs) (k : Nat) (hk : k ≤ out.length) (hb : ∀ q ∈ out.take k, q < x) (he : ∀ y, out[k]? = some y → ¬ y < x) :
    insD x out = if out[k]? = some x then out else out.take k ++ x :: out.drop k := by
  induction out generalizing k with
  | nil => simp [insD]
  | cons z out ih =>
    cases k with
    | zero =>
      have h1 : ¬ z < x := he z rfl
      unfold insD
      rw [if_neg h1]
      simp
    | succ k =>
      have h1 : z < x := hb z (by simp)
      unfold insD
      rw [if_pos h1, ih k (by simpa using hk) (fun q hq => hb q (by simp [hq])) (fun y hy => he y (by simpa using hy))]
      simp only [List.getElem?_cons_succ, List.take_succ_cons, List.drop_succ_cons]
      split <;> simp

set_option maxRecDepth 100000 in
set_option maxHeartbeats 1000000 in
theorem r08_same (l m : List Bs) (v u : Value) (B : Nat) (w : World) (hv : w.ownsRow 0 9 1 v l.length (l.map vs)) (hu : w.ownsRow 0 9 1 u m.length (m.map vs)) (hl : l.length ≤ 1000000000) (hm : m.length ≤ 1000000000) :
    Calls Tryz.prog 28 #[v, u] w fun e w' => e = .returned (.bool (decide (l = m))) ∧ ∃ n, w' = w.drewN n := by
  have HV := Lib.hid hv
  have HU := Lib.hid hu
  obtain ⟨av, cv, rfl⟩ := ownsRow_val hv
  obtain ⟨au, cu, rfl⟩ := ownsRow_val hu
  clear hv hu
  by_cases hlen : l.length = m.length
  · have hq : ((l.length : Int) == (m.length : Int)) = true := by rw [beq_iff_eq]; omega
    have hq' : ((l.length : Int) != (m.length : Int)) = false := by rw [bne_eq_false_iff_eq]; omega
    have HLEN := Lib.hid hlen
    have hle1 : l.length ≤ m.length := by omega
    have hle2 : m.length ≤ l.length := by omega
    clear hlen
    go_enter Tryz.func28, Tryz.ntmps28
    go_wp2
    clear hq hq'
    go_loopw [5] (fun i wr => ∃ k n : Nat, k ≤ l.length ∧ i = .int .i64 k ∧ Hid (l.take k = m.take k) ∧ wr = w.drewN n) (fun i _ => l.length - (intOf i).toNat)
    case atStart => exact ⟨0, 0, Nat.zero_le _, rfl, Lib.hid rfl, rfl⟩
    case round =>
      obtain ⟨k, n, hk, rfl, HE, rfl⟩ := hrel
      by_cases hlt : k < l.length
      · have hlt2 : k < m.length := by omega
        obtain ⟨g, rfl, hc, _, _, hcv, hcm⟩ := ownsRow_some HV.out (by omega)
        obtain ⟨g2, rfl, hc2, _, _, hcv2, hcm2⟩ := ownsRow_some HU.out (by omega)
        have c0 := hc k (vs l[k]) (by simp [hlt])
        have c1 := hc2 k (vs m[k]) (by simp [hlt2])
        have c0' := fun n => (show (w.drewN n).cell? ⟨g, k, none⟩ = some (vs l[k]) from c0)
        have c1' := fun n => (show (w.drewN n).cell? ⟨g2, k, none⟩ = some (vs m[k]) from c1)
        have b1 : (0 : Int) ≤ (k : Int) := by omega
        have b2 : (k : Int) < (l.length : Int) := by omega
        have b3 : (k : Int) < (m.length : Int) := by omega
        have HT := Lib.hid (show l[k] = m[k] → l.take (k + 1) = m.take (k + 1) from fun h => by
          rw [List.take_add_one, List.take_add_one, HE.out, List.getElem?_eq_getElem hlt, List.getElem?_eq_getElem hlt2, h])
        have HN := Lib.hid (show l[k] ≠ m[k] → decide (l = m) = false from fun h => by
          simp only [decide_eq_false_iff_not]; intro e; subst e; exact h rfl)
        unfold maxLen at hcm hcm2
        clear hc hc2
        generalize l[k] = x at *
        generalize m[k] = y at *
        by_cases he : x = y
        · subst he
          have hq2 : (x == x) = true := by simp
          have HM := Lib.hid (HT.out rfl)
          go_wp2_with fail
          go_quiet (fail)
          go_wp2_with fail
          go_roundw
          case rel => exact ⟨k + 1, _, by omega, by go_num, HM, rfl⟩
          case measure => simp [intOf]; omega
        · have hq2 : (x == y) = false := by simpa using he
          have HM := Lib.hid (HN.out he)
          clear he
          go_wp2_with fail
          go_quiet (fail)
          go_wp2_with fail
          go_ret
          rw [HM.out]
          exact ⟨rfl, n + nq, by simp [World.drewN, Nat.add_assoc]⟩
      · obtain rfl : k = l.length := by omega
        have HM := Lib.hid (show decide (l = m) = true from by
          have := HE.out; rw [List.take_length, HLEN.out, List.take_length] at this; simpa using this)
        go_wp2_with fail
        go_ret
        rw [HM.out]
        exact ⟨rfl, _, rfl⟩
  · have hq : ((l.length : Int) == (m.length : Int)) = false := by rw [beq_eq_false_iff_ne]; omega
    have HM := Lib.hid (show decide (l = m) = false from by simp only [decide_eq_false_iff_not]; intro e; exact hlen (by rw [e]))
    clear hlen
    go_enter Tryz.func28, Tryz.ntmps28
    go_wp2
    go_ret
    rw [HM.out]
    exact ⟨rfl, 0, rfl⟩
end Go.Proofs.YtahdldbfcjbklaaGreat
