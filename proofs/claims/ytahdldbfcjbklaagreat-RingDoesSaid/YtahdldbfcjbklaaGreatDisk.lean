/- disk: the program's walks. -/
import Derived.Test.YtahdldbfcjbklaaGreatRows
import Derived.Test.YtahdldbfcjbklaaGreatDiskSpec
namespace Go.Proofs.YtahdldbfcjbklaaGreat
open Go.RowKit Go.MapKept
open Go.ChangeMaps (setBlock)
theorem vs_key : KeyT (α := Bs) Tryz.prog 9 vs := ⟨⟨.string, Tryz.underlying9, fun a => trivial⟩, fun a b h => vs_inj.1 h, fun a => by simp [Instr.sameBits, vs, bytes_beq]⟩
theorem Tryz.zeroString (w : World) : (zeroValue 9).run Tryz.prog w = .ok (vs []) w := by kernel_rfl

/-- an event as a value -/
def Ev.val (e : Ev) : Value := .agg #[.int .i64 e.op, vs e.name, vs e.to_, vs e.data]

set_option maxRecDepth 100000 in
set_option maxHeartbeats 1000000 in
theorem do_any (m : Nat) (e : Ev) (l : Files) (es : List (Ent Bs)) (c : Nat) (w : World) (hM : MapB vs w m es c) (hF : FilesR es l) (hop : e.op = 1 ∨ e.op = 2 ∨ e.op = 3 ∨ e.op = 4) (hsz : (dataF l e.name).length + e.data.length ≤ 1099511627776) :
    Calls Tryz.prog 44 #[.map (some m), .agg #[.int .i64 e.op, vs e.name, vs e.to_, vs e.data]] w fun r w' => r = .returned (.tuple #[]) ∧ ∃ es' c', MapB vs w' m es' c' ∧ FilesR es' (doF l e) ∧ Chg (· = m) w w' := by
  obtain ⟨op, name, to_, data⟩ := e
  simp only at hop hsz ⊢
  have hmlt := lt_of_heap hM.heap
  have hM1 : ∀ o, MapB vs (w.alloc o) m es c := fun o => hM.kept (S := fun _ => False) ((Chg.refl _ w).alloc o) (fun h => h)
  have hlk := fun o => (run_lookup_map vs_key Tryz.underlying59 (Tryz.zeroString _) (hM1 o) name).2
  have hd := hF.data name
  have HD := Lib.hid hd
  rw [hd] at hlk
  rcases hop with rfl | rfl | rfl | rfl
  · have hup := fun o => run_mapUpdate_map vs_key Tryz.underlying59 (hM1 o) name (vs data)
    clear hd hlk
    go_enter Tryz.func44, Tryz.ntmps44
    go_wp2
    go_end0
    exact ⟨rfl, _, _, (hM1 _).put _ _, hF.put _ _ _, ((Chg.refl _ w).alloc _).trans' (chg_setBlock _ _ _) (fun _ _ h => h)⟩
  · have hup := fun o => run_mapUpdate_map vs_key Tryz.underlying59 (hM1 o) name (vs (dataF l name ++ data))
    clear hd
    go_enter Tryz.func44, Tryz.ntmps44
    go_wp2
    go_end0
    exact ⟨rfl, _, _, (hM1 _).put _ _, hF.put _ _ _, ((Chg.refl _ w).alloc _).trans' (chg_setBlock _ _ _) (fun _ _ h => h)⟩
  · have hdl := fun o => run_delete_map vs_key Tryz.underlying59 (hM1 o) name
    have hM2 := fun o => (hM1 o).del name
    have hup := fun o => run_mapUpdate_map vs_key Tryz.underlying59 (hM2 o) to_ (vs (dataF l name))
    have hc1 : ∀ (o' : Obj) (i : Nat), i < 4 → (setBlock (w.alloc (.cells #[.int .i64 3, vs name, vs to_, vs data] 89)) m o').cell? ⟨w.heap.size, i, none⟩ = #[.int .i64 3, vs name, vs to_, vs data][i]? := by
      intro o' i hi
      rw [cell_setBlock_other _ _ _ _ _ (by omega)]
      exact cell_of_row _ _ _ _ _ _ (heap_alloc_new w _)
    clear hd
    go_enter Tryz.func44, Tryz.ntmps44
    go_wp2
    go_end0
    exact ⟨rfl, _, _, (hM2 _).put _ _, (hF.del _).put _ _ _, (((Chg.refl _ w).alloc _).trans' (chg_setBlock _ _ _) (fun _ _ h => h)).trans (chg_setBlock _ _ _)⟩
  · have hdl := fun o => run_delete_map vs_key Tryz.underlying59 (hM1 o) name
    clear hd hlk
    go_enter Tryz.func44, Tryz.ntmps44
    go_wp2
    go_end0
    exact ⟨rfl, _, _, (hM1 _).del _, hF.del _, ((Chg.refl _ w).alloc _).trans' (chg_setBlock _ _ _) (fun _ _ h => h)⟩

set_option maxRecDepth 100000 in
set_option maxHeartbeats 1000000 in
theorem has_any (F : Nat → Prop) (b : Nat) (d : DS) (n : Bs) (w : World) (h : DiskAt 62 89 w F b d) :
    Calls Tryz.prog 46 #[.pointer (some ⟨b, 0, none⟩), vs n] w fun r w' => r = .returned (.bool (getF d.now n).isSome) ∧ w = w' := by
  obtain ⟨⟨mN, mS, vP, vT, esN, esS, cN, cS, hb, hMN, hFN, hMS, hFS, hne, hP, hT, hPT, hF⟩, _⟩ := h
  have c0 := cell_of_row w b 0 _ _ _ hb
  have hlk := (run_lookup_map vs_key Tryz.underlying59 (Tryz.zeroString _) hMN n).1
  rw [hFN.2 n] at hlk
  rw [Option.isSome_map] at hlk
  simp only [List.getElem?_toArray, List.getElem?_cons_zero] at c0
  clear hb hP hT hPT hF hFN hFS
  go_enter Tryz.func46, Tryz.ntmps46
  go_wp2
  go_ret
  exact ⟨rfl, rfl⟩

set_option maxRecDepth 100000 in
set_option maxHeartbeats 1000000 in
theorem read_any (F : Nat → Prop) (b : Nat) (d : DS) (n : Bs) (w : World) (h : DiskAt 62 89 w F b d) :
    Calls Tryz.prog 22 #[.pointer (some ⟨b, 0, none⟩), vs n] w fun r w' => r = .returned (.tuple #[vs (d.read n).1, .int .i64 (d.read n).2]) ∧ w = w' := by
  have hhas := has_any F b d n w h
  obtain ⟨⟨mN, mS, vP, vT, esN, esS, cN, cS, hb, hMN, hFN, hMS, hFS, hne, hP, hT, hPT, hF⟩, _⟩ := h
  have c0 := cell_of_row w b 0 _ _ _ hb
  have hlk := (run_lookup_map vs_key Tryz.underlying59 (Tryz.zeroString _) hMN n).2
  rw [hFN.data n] at hlk
  simp only [List.getElem?_toArray, List.getElem?_cons_zero] at c0
  clear hb hP hT hPT hF hFN hFS
  cases hg : getF d.now n with
  | none =>
    have HR := Lib.hid (show d.read n = ([], 10) from by simp [DS.read, hg])
    rw [hg] at hhas
    have HH := Lib.hid hhas; clear hhas hg
    go_enter Tryz.func22, Tryz.ntmps22
    go_wp2_with fail
    refine HH.out.mono ?_
    rintro e w' ⟨rfl, rfl⟩
    simp only [Option.isSome_none]
    go_wp2_with fail
    go_ret2
    rw [HR.out]
    exact ⟨rfl, rfl⟩
  | some x =>
    have HR := Lib.hid (show d.read n = (dataF d.now n, 0) from by simp [DS.read, dataF, hg])
    rw [hg] at hhas
    have HH := Lib.hid hhas; clear hhas hg
    go_enter Tryz.func22, Tryz.ntmps22
    go_wp2_with fail
    refine HH.out.mono ?_
    rintro e w' ⟨rfl, rfl⟩
    simp only [Option.isSome_some]
    go_wp2_with fail
    go_ret2
    rw [HR.out]
    exact ⟨rfl, rfl⟩

/-- how many bytes the entries have -/
def sizeE (l : List (Ent Bs)) : Nat := (l.map fun e => match e.val with | .string s => s.size | _ => 0).sum
theorem sizeE_files {es : List (Ent Bs)} {l : Files} (h : FilesR es l) (hn : (es.map (·.key)).Nodup) : sizeE es = sizeF l := by
  have hp := (h.perm hn).map (fun p : Bs × Value => match p.2 with | .string s => s.size | _ => 0)
  have := hp.sum_nat
  rw [List.map_map, List.map_map] at this
  exact this
theorem FilesR.val {es : List (Ent Bs)} {l : Files} (h : FilesR es l) (hn : (es.map (·.key)).Nodup) {e : Ent Bs} (he : e ∈ es) : ∃ s : Bs, e.val = vs s := by
  have h1 := (mem_iff_getE hn e.key e.val).1 (List.mem_map.2 ⟨e, he, rfl⟩)
  rw [h.2] at h1
  obtain ⟨x, _, hx⟩ := Option.map_eq_some_iff.1 h1
  exact ⟨x, hx.symm⟩
theorem sizeE_snoc (l : List (Ent Bs)) (e : Ent Bs) (s : Bs) (h : e.val = vs s) : sizeE (l ++ [e]) = sizeE l + s.length := by
  have h1 : ∀ v : Value, v = vs s → (match v with | .string s => s.size | _ => 0) = s.length := by rintro v rfl; rfl
  simp only [sizeE, List.map_append, List.sum_append, List.map_cons, List.map_nil, List.sum_cons, List.sum_nil]
  rw [h1 _ h]; rfl
theorem sizeE_perm {l l' : List (Ent Bs)} (h : l.Perm l') : sizeE l = sizeE l' := (h.map _).sum_nat
theorem sizeE_le {es done : List (Ent Bs)} (hb : (es.map (·.born)).Nodup) (h : Seen es done) : sizeE done ≤ sizeE es := by
  have hn := nodup_of_map h.nodup
  have : ∀ (done es : List (Ent Bs)), done.Nodup → done ⊆ es → sizeE done ≤ sizeE es := by
    intro done
    induction done with
    | nil => intro es _ _; exact Nat.zero_le _
    | cons x l ih =>
      intro es hn hs
      obtain ⟨a, b, rfl⟩ := List.append_of_mem (hs (List.mem_cons_self))
      have hx := List.nodup_cons.1 hn
      have h1 := ih (a ++ b) hx.2 (fun y hy => by
        have h2 := hs (List.mem_cons_of_mem _ hy)
        rw [List.mem_append, List.mem_cons] at h2
        rw [List.mem_append]
        rcases h2 with h2 | rfl | h2
        · exact .inl h2
        · exact absurd hy hx.1
        · exact .inr h2)
      simp only [sizeE, List.map_append, List.map_cons, List.sum_append, List.sum_cons] at h1 ⊢
      omega
  exact this done es hn h.sub

/-- how far an iterator is -/
def iterLen (w : World) (r : Nat) : Nat := match w.heap[r]? with | some (.mapIter _ _ seen _) => seen.size | _ => 0
theorem iterLen_at {w : World} {r c : Nat} {m : Option Nat} {l : List Nat} (h : w.heap[r]? = some (.mapIter m c l.toArray c)) : iterLen w r = l.length := by simp [iterLen, h]

set_option maxRecDepth 100000 in
set_option maxHeartbeats 1000000 in
theorem size_any (F : Nat → Prop) (b : Nat) (d : DS) (w : World) (h : DiskAt 62 89 w F b d) (hsz : sizeF d.now ≤ 1099511627776) :
    Calls Tryz.prog 61 #[.pointer (some ⟨b, 0, none⟩)] w fun r w' => r = .returned (.int .i64 (sizeF d.now)) ∧ Below w.heap.size w w' := by
  obtain ⟨⟨mN, mS, vP, vT, esN, esS, cN, cS, hb, hMN, hFN, hMS, hFS, hne, hP, hT, hPT, hF⟩, _⟩ := h
  have c0 := cell_of_row w b 0 _ _ _ hb
  have hrg := run_range_map (P := Tryz.prog) Tryz.underlying59 hMN
  have hE := sizeE_files hFN hMN.keys
  simp only [List.getElem?_toArray, List.getElem?_cons_zero] at c0
  have HE := Lib.hid hE
  have hmlt := lt_of_heap hMN.heap
  clear hE hb hP hT hPT hF hFS
  go_enter Tryz.func61, Tryz.ntmps61
  go_wp2
  go_loopw [3] (fun n wr => ∃ done : List (Ent Bs), Seen esN done ∧ n = .int .i64 (sizeE done) ∧ wr.heap[w.heap.size]? = some (.mapIter (some mN) cN (done.map (·.born)).toArray cN) ∧ MapB vs wr mN esN cN ∧ Below w.heap.size w wr)
    (fun _ wr => esN.length - iterLen wr w.heap.size)
  case atStart => exact ⟨[], Seen.start _, rfl, heap_alloc_new w _, hMN.kept (S := fun _ => False) ((Chg.refl _ w).alloc _) (fun h => h), (Below.refl _ _).alloc (Nat.le_refl _) _⟩
  case round =>
    obtain ⟨done, hS, rfl, hI, hM, hB⟩ := hrel
    have hle := sizeE_le hMN.born hS
    have hle2 : sizeE done ≤ 1099511627776 := by have := HE.out; omega
    have HL := Lib.hid (iterLen_at hI)
    go_wp2_with (at_next; refine wpList_next_map rfl (.tmp 10) rfl rfl hI hM hS (fun hperm => ?_) (fun e w1 he hlen hS1 hI1 hch hM1 hen => ?_); rotate_right; obtain ⟨ek, ev, eb⟩ := e; obtain ⟨s, rfl⟩ : ∃ s : Bs, ev = vs s := hFN.val hMN.keys he; have hsn := Lib.hid (sizeE_snoc done ⟨ek, vs s, eb⟩ s rfl); have hle3 : sizeE done + s.length ≤ 1099511627776 := (by have h1 := sizeE_le hMN.born hS1; have h2 := hsn.out; have h3 := HE.out; omega); rotate_left)
    · go_ret
      refine ⟨?_, hB⟩
      have := sizeE_perm hperm
      rw [← HE.out, ← this]
      rfl
    · go_wp2
      go_roundw
      case rel => exact ⟨_, hS1, by rw [hsn.out]; go_num, hI1, hM1, hB.trans (hch.below hB.size (fun k hk => by subst hk; exact Nat.le_refl _))⟩
      case measure => 
        rw [HL.out, iterLen_at hI1]
        simp; omega

theorem Tryz.mapsClone (m : Nat) (es : Array MapEntry) (c : Nat) (w : World) (h : w.heap[m]? = some (.map es c)) :
    (callFunc 73 #[.iface 59 (.map (some m))]).run Tryz.prog w = .ok (.value (.iface 59 (.map (some w.heap.size)))) (w.alloc (.map es c)) := by
  rw [run_callFunc_extern Tryz.func73 (by kernel_rfl) (by kernel_rfl) (by kernel_rfl) (e := Extern.MapsClone.clone) (by kernel_rfl)]
  have hg := MapKept.run_getObj_map (P := Tryz.prog) h
  have e : Extern.MapsClone.clone #[.iface 59 (.map (some m))] = (getObj m >>= fun o => match o with
      | .map entries clock => (newObj (.map entries clock) >>= fun n => pure (.iface 59 (.map (some n))))
      | _ => stuck "maps.clone: a map expected") := rfl
  rw [e]
  simp [hg, Result.andThen, go_sem]
theorem Tryz.assertFiles (v : Value) (w : World) : (Instr.typeAssert (.iface 59 v) 20 59 false).run Tryz.prog w = .ok v w := by
  simp [Instr.typeAssert, run_underlying Tryz.underlying59, go_sem]

set_option maxRecDepth 100000 in
set_option maxHeartbeats 1000000 in
theorem clone_any (m : Nat) (es : List (Ent Bs)) (c : Nat) (w : World) (h : MapB vs w m es c) :
    Calls Tryz.prog 43 #[.map (some m)] w fun r w' => r = .returned (.map (some w.heap.size)) ∧ MapB vs w' w.heap.size es c ∧ Below w.heap.size w w' := by
  have hcl := Tryz.mapsClone m _ c w h.heap
  have hb := heap_alloc_new w (.map (es.map (Ent.entry vs)).toArray c)
  have hq := run_eql_map_nil (P := Tryz.prog) w 59 9 9 (some m) Tryz.underlying59
  have hta := Tryz.assertFiles
  have HB := Lib.hid hb; clear hb
  go_enter Tryz.func43, Tryz.ntmps43
  go_wp2
  go_ret
  exact ⟨rfl, ⟨HB.out, h.keys, h.born, h.lt⟩, (Below.refl _ _).alloc (Nat.le_refl _) _⟩

theorem Tryz.infoEvent : (Tryz.prog.info? 89).map (fun i => (i.zero, i.size, i.bytes)) = some (some (.agg #[.int .i64 0, vs [], vs [], vs []]), 4, 56) := by kernel_rfl
theorem Tryz.eventT : ElemT Tryz.prog 60 89 (.agg #[.int .i64 0, vs [], vs [], vs []]) 4 56 := ⟨Tryz.underlying60, Tryz.infoEvent, rfl, by decide⟩

set_option maxRecDepth 100000 in
set_option maxHeartbeats 1000000 in
theorem done_dead (F : Nat → Prop) (b : Nat) (d : DS) (e : Ev) (w : World) (h : DiskAt 62 89 w F b d) (hd : d.dead = true ∨ d.fuse = 0) :
    Calls Tryz.prog 62 #[.pointer (some ⟨b, 0, none⟩), .agg #[.int .i64 e.op, vs e.name, vs e.to_, vs e.data]] w fun r w' => r = .returned (.int .i64 13) ∧ DiskAt 62 89 w' F b { d with dead := true } ∧ Chg F w w' := by
  have hself := h.self
  have H1 := fun o => Lib.hid ((h.setDead true).keptB ((Below.refl _ _).alloc (Nat.le_refl _) o))
  obtain ⟨⟨mN, mS, vP, vT, esN, esS, cN, cS, hb, hMN, hFN, hMS, hFS, hne, hP, hT, hPT, hF⟩, hty⟩ := h
  have hblt := lt_of_heap hb
  have c5 := cell_of_row w b 5 _ _ _ hb
  have c6 := cell_of_row w b 6 _ _ _ hb
  have f6 := frozen_of_row w b 6 _ _ hb
  simp only [List.getElem?_toArray, List.getElem?_cons_zero, List.getElem?_cons_succ] at c5 c6
  clear hb hMN hFN hMS hFS hne hP hT hPT hF hty
  obtain ⟨op, name, to_, data⟩ := e
  by_cases hdd : d.dead = true
  · rw [hdd] at c6
    clear hd hdd
    go_enter Tryz.func62, Tryz.ntmps62
    go_wp2
    go_ret
    exact ⟨rfl, (H1 _).out, ((Chg.refl F w).setCell (p := ⟨b, 6, none⟩) (fun _ => hself) _).alloc _⟩
  · have hdf : d.dead = false := by simpa using hdd
    have hf0 : d.fuse = 0 := hd.resolve_left hdd
    rw [hdf] at c6
    rw [hf0] at c5
    clear hd hdd hdf hf0
    go_enter Tryz.func62, Tryz.ntmps62
    go_wp2
    go_ret
    exact ⟨rfl, (H1 _).out, ((Chg.refl F w).setCell (p := ⟨b, 6, none⟩) (fun _ => hself) _).alloc _⟩

/-- the trace has one more: what the append has left, and the store of the slice into the disk's block -/
theorem DiskAt.appTrace {TD TE : TypeId} {w w2 : World} {F : Nat → Prop} {b : Nat} {d : DS} (h : DiskAt TD TE w F b d) {w1 : World} (hc : Below w.heap.size w w1) {vT : Value} (e : Ev)
    (hv : w1.cell? ⟨b, 3, none⟩ = some vT) {av : Option Addr} {nv cv : Nat} (hown : w2.ownsRow 0 TE 4 (.slice av nv cv) (d.trace.length + 1) (evCells d.trace ++ e.cells)) (hg : w1.grownBy w2 vT.ownBlock) (hfr : ∀ k, av.map (·.block) = some k → vT.ownBlock = some k ∨ w.heap.size ≤ k) :
    ∃ F', DiskAt TD TE (w2.setCell ⟨b, 3, none⟩ (.slice av nv cv)) F' b { d with trace := d.trace ++ [e] } ∧ (∀ k, F' k → F k ∨ w.heap.size ≤ k) ∧ Chg F w (w2.setCell ⟨b, 3, none⟩ (.slice av nv cv)) := by
  have hself := h.self
  obtain ⟨⟨mN, mS, vP, vT', esN, esS, cN, cS, hb, hMN, hFN, hMS, hFS, hne, hP, hT, hPT, hF⟩, hty⟩ := h.keptB hc
  have e1 : vT' = vT := by
    have := cell_of_row w1 b 3 _ _ _ hb
    rw [hv] at this
    simpa using this.symm
  subst e1
  have hgc := chg_grown hg
  have hnb := own_ne hT hb hty
  have hb2 := (hgc.block b (lt_of_heap hb) hnb).trans hb
  have h1 : mN ≠ b := by intro e; subst e; rw [hMN.heap] at hb; cases hb
  have h2 : mS ≠ b := by intro e; subst e; rw [hMS.heap] at hb; cases hb
  have hmT : ∀ m es c, MapB vs w1 m es c → vT'.ownBlock ≠ some m := by
    intro m es c hm hk
    rcases hT.2 with ⟨rfl, _⟩ | ⟨g, cap, cur, rfl, _, hg, _⟩
    · cases hk
    · simp only [Value.ownBlock, Option.some.injEq] at hk
      subst hk
      rw [hm.heap] at hg; cases hg
  have hMN2 := hMN.kept hgc (hmT _ _ _ hMN)
  have hMS2 := hMS.kept hgc (hmT _ _ _ hMS)
  have hP2 := ownsRow_chg hP hgc (fun k hk hk2 => hPT k hk hk2)
  have hc3 := chg1 w2 b 3 (.slice av nv cv)
  have hPb := own_ne hP2 hb2 hty
  have hTb := own_ne hown hb2 hty
  have hlen : (d.trace ++ [e]).length = d.trace.length + 1 := by simp
  have hown' : (w2.setCell ⟨b, 3, none⟩ (.slice av nv cv)).ownsRow 0 TE 4 (.slice av nv cv) (d.trace ++ [e]).length (evCells (d.trace ++ [e])) := by
    rw [hlen, evCells_snoc]
    exact ownsRow_chg hown hc3 (fun k hk e => hTb (by rw [hk, e]))
  have hblk : ∀ k, (Value.slice av nv cv).ownBlock = some k → av.map (·.block) = some k := by
    intro k hk
    cases av with
    | none => cases hk
    | some a => simpa [Value.ownBlock] using hk
  refine ⟨fun k => k = b ∨ k = mN ∨ k = mS ∨ vP.ownBlock = some k ∨ (Value.slice av nv cv).ownBlock = some k, ⟨⟨mN, mS, vP, _, esN, esS, cN, cS, heap_setCell_same _ _ _ _ _ _ hb2, hMN2.kept hc3 h1, hFN, hMS2.kept hc3 h2, hFS, hne, ownsRow_chg hP2 hc3 (fun k hk e => hPb (by rw [hk, e])), hown', ?_, fun k => Iff.rfl⟩, hty⟩, ?_, ?_⟩
  · intro k hk hk2
    rcases hfr k (hblk k hk2) with h3 | h3
    · exact hPT k hk h3
    · have := (hP.lt k hk).2
      have hlt := h.lt k ((hF k).2 (.inr (.inr (.inr (.inl hk)))))
      omega
  · intro k hk
    rcases hk with h3 | h3 | h3 | h3 | h3
    · exact .inl ((hF k).2 (.inl h3))
    · exact .inl ((hF k).2 (.inr (.inl h3)))
    · exact .inl ((hF k).2 (.inr (.inr (.inl h3))))
    · exact .inl ((hF k).2 (.inr (.inr (.inr (.inl h3)))))
    · rcases hfr k (hblk k h3) with h4 | h4
      · exact .inl ((hF k).2 (.inr (.inr (.inr (.inr h4)))))
      · exact .inr h4
  · refine (((Chg.of_below hc).trans' hgc (fun i _ hi => (hF i).2 (.inr (.inr (.inr (.inr hi)))))) : Chg F w w2).setCell (p := ⟨b, 3, none⟩) (fun _ => hself) _

/-- what a region 'd.trace = append(d.trace, e)' leaves -/
theorem after_trace {TD TE : TypeId} {w1 w2 : World} {F : Nat → Prop} {b : Nat} {d : DS} (h : DiskAt TD TE w1 F b d) {vT : Value} (hv : w1.cell? ⟨b, 3, none⟩ = some vT) (e : Ev) (o : Obj) {g cv : Nat}
    (hown : w2.ownsRow 0 TE 4 (.slice (some ⟨g, 0, none⟩) (d.trace.length + 1) cv) (d.trace.length + 1) (evCells d.trace ++ e.cells)) (hg : (w1.alloc o).drew.grownBy w2 vT.ownBlock) (hg2 : vT.ownBlock = some g ∨ g = (w1.alloc o).drew.heap.size)
    {wb : Nat} {x : Obj} (hbox : w1.heap[wb]? = some x) (hwb : ¬ F wb) :
    ∃ F3, DiskAt TD TE (w2.setCell ⟨b, 3, none⟩ (.slice (some ⟨g, 0, none⟩) (d.trace.length + 1) cv)) F3 b { d with trace := d.trace ++ [e] } ∧ (∀ k, F3 k → F k ∨ w1.heap.size ≤ k) ∧
      Chg F w1 (w2.setCell ⟨b, 3, none⟩ (.slice (some ⟨g, 0, none⟩) (d.trace.length + 1) cv)) ∧ (w2.setCell ⟨b, 3, none⟩ (.slice (some ⟨g, 0, none⟩) (d.trace.length + 1) cv)).heap[wb]? = some x := by
  have hblt := h.lt b h.self
  have hc : Below w1.heap.size w1 (w1.alloc o).drew := ((Below.refl _ w1).alloc (Nat.le_refl _) o).drew
  have hv' : (w1.alloc o).drew.cell? ⟨b, 3, none⟩ = some vT := cell_below hc hv
  obtain ⟨F3, h1, h2, h3⟩ := h.appTrace hc e hv' hown hg (fun k hk => by
    simp only [Option.map_some, Option.some.injEq] at hk
    subst hk
    rcases hg2 with h4 | h4
    · exact .inl h4
    · exact .inr (by rw [h4]; exact hc.size))
  exact ⟨F3, h1, h2, h3, (h3.block wb (lt_of_heap hbox) hwb).trans hbox⟩

/-- what 'd.sure, d.pending = clone, nil' leaves -/
theorem after_sync {TD TE : TypeId} {w : World} {F : Nat → Prop} {b : Nat} {d : DS} (h : DiskAt TD TE w F b d) {m c : Nat} {es : List (Ent Bs)} {l : Files} (hM : MapB vs w m es c) (hL : FilesR es l) (hm : ¬ F m) :
    ∃ F', DiskAt TD TE ((w.setCell ⟨b, 1, none⟩ (.map (some m))).setCell ⟨b, 2, none⟩ (.slice none 0 0)) F' b { d with sure := l, pend := [] } ∧ (∀ k, F' k → F k ∨ k = m) := by
  obtain ⟨⟨mN, mS, vP, vT, esN, esS, cN, cS, hb, hMN, hFN, hMS, hFS, hne, hP, hT, hPT, hF⟩, hty⟩ := h
  have h1 : mN ≠ b := by intro e; subst e; rw [hMN.heap] at hb; cases hb
  have h2 : m ≠ b := by intro e; subst e; rw [hM.heap] at hb; cases hb
  have h4 := own_ne hT hb hty
  have hc := chg2 w b 1 2 (.map (some m)) (.slice none 0 0)
  have h5 : mN ≠ m := by intro e; subst e; exact hm ((hF mN).2 (.inr (.inl rfl)))
  have h6 : ∀ k, (Value.slice none 0 0).ownBlock = some k → vT.ownBlock ≠ some k := fun k hk => by cases hk
  refine ⟨fun k => k = b ∨ k = mN ∨ k = m ∨ (Value.slice none 0 0).ownBlock = some k ∨ vT.ownBlock = some k, ⟨⟨mN, m, .slice none 0 0, vT, esN, es, cN, c, heap_setCell_same _ _ _ _ _ _ (heap_setCell_same _ _ _ _ _ _ hb), hMN.kept hc h1, hFN, hM.kept hc h2, hL, h5, World.ownsRow_nil _ _ _ _, ownsRow_chg hT hc (fun k hk e => h4 (by rw [hk, e])), h6, fun k => Iff.rfl⟩, hty⟩, ?_⟩
  rintro k (rfl | rfl | rfl | h7 | h7)
  · exact .inl ((hF k).2 (.inl rfl))
  · exact .inl ((hF k).2 (.inr (.inl rfl)))
  · exact .inr rfl
  · cases h7
  · exact .inl ((hF k).2 (.inr (.inr (.inr (.inr h7)))))

/-- what is pending has one more: what the append has left, and the store of the slice into the disk's block -/
theorem DiskAt.appPend {TD TE : TypeId} {w w2 : World} {F : Nat → Prop} {b : Nat} {d : DS} (h : DiskAt TD TE w F b d) {w1 : World} (hc : Below w.heap.size w w1) {vP : Value} (e : Ev)
    (hv : w1.cell? ⟨b, 2, none⟩ = some vP) {av : Option Addr} {nv cv : Nat} (hown : w2.ownsRow 0 TE 4 (.slice av nv cv) (d.pend.length + 1) (evCells d.pend ++ e.cells)) (hg : w1.grownBy w2 vP.ownBlock) (hfr : ∀ k, av.map (·.block) = some k → vP.ownBlock = some k ∨ w.heap.size ≤ k) :
    ∃ F', DiskAt TD TE (w2.setCell ⟨b, 2, none⟩ (.slice av nv cv)) F' b { d with pend := d.pend ++ [e] } ∧ (∀ k, F' k → F k ∨ w.heap.size ≤ k) ∧ Chg F w (w2.setCell ⟨b, 2, none⟩ (.slice av nv cv)) := by
  have hself := h.self
  obtain ⟨⟨mN, mS, vP', vT, esN, esS, cN, cS, hb, hMN, hFN, hMS, hFS, hne, hP, hT, hPT, hF⟩, hty⟩ := h.keptB hc
  have e1 : vP' = vP := by
    have := cell_of_row w1 b 2 _ _ _ hb
    rw [hv] at this
    simpa using this.symm
  subst e1
  have hgc := chg_grown hg
  have hnb := own_ne hP hb hty
  have hb2 := (hgc.block b (lt_of_heap hb) hnb).trans hb
  have h1 : mN ≠ b := by intro e; subst e; rw [hMN.heap] at hb; cases hb
  have h2 : mS ≠ b := by intro e; subst e; rw [hMS.heap] at hb; cases hb
  have hmT : ∀ m es c, MapB vs w1 m es c → vP'.ownBlock ≠ some m := by
    intro m es c hm hk
    rcases hP.2 with ⟨rfl, _⟩ | ⟨g, cap, cur, rfl, _, hg, _⟩
    · cases hk
    · simp only [Value.ownBlock, Option.some.injEq] at hk
      subst hk
      rw [hm.heap] at hg; cases hg
  have hMN2 := hMN.kept hgc (hmT _ _ _ hMN)
  have hMS2 := hMS.kept hgc (hmT _ _ _ hMS)
  have hT2 := ownsRow_chg hT hgc (fun k hk hk2 => hPT k hk2 hk)
  have hc3 := chg1 w2 b 2 (.slice av nv cv)
  have hPb := own_ne hT2 hb2 hty
  have hTb := own_ne hown hb2 hty
  have hlen : (d.pend ++ [e]).length = d.pend.length + 1 := by simp
  have hown' : (w2.setCell ⟨b, 2, none⟩ (.slice av nv cv)).ownsRow 0 TE 4 (.slice av nv cv) (d.pend ++ [e]).length (evCells (d.pend ++ [e])) := by
    rw [hlen, evCells_snoc]
    exact ownsRow_chg hown hc3 (fun k hk e => hTb (by rw [hk, e]))
  have hblk : ∀ k, (Value.slice av nv cv).ownBlock = some k → av.map (·.block) = some k := by
    intro k hk
    cases av with
    | none => cases hk
    | some a => simpa [Value.ownBlock] using hk
  refine ⟨fun k => k = b ∨ k = mN ∨ k = mS ∨ (Value.slice av nv cv).ownBlock = some k ∨ vT.ownBlock = some k, ⟨⟨mN, mS, _, vT, esN, esS, cN, cS, heap_setCell_same _ _ _ _ _ _ hb2, hMN2.kept hc3 h1, hFN, hMS2.kept hc3 h2, hFS, hne, hown', ownsRow_chg hT2 hc3 (fun k hk e => hPb (by rw [hk, e])), ?_, fun k => Iff.rfl⟩, hty⟩, ?_, ?_⟩
  · intro k hk2 hk
    rcases hfr k (hblk k hk2) with h3 | h3
    · exact hPT k h3 hk
    · have hlt := h.lt k ((hF k).2 (.inr (.inr (.inr (.inr hk)))))
      omega
  · intro k hk
    rcases hk with h3 | h3 | h3 | h3 | h3
    · exact .inl ((hF k).2 (.inl h3))
    · exact .inl ((hF k).2 (.inr (.inl h3)))
    · exact .inl ((hF k).2 (.inr (.inr (.inl h3))))
    · rcases hfr k (hblk k h3) with h4 | h4
      · exact .inl ((hF k).2 (.inr (.inr (.inr (.inl h4)))))
      · exact .inr h4
    · exact .inl ((hF k).2 (.inr (.inr (.inr (.inr h3)))))
  · refine (((Chg.of_below hc).trans' hgc (fun i _ hi => (hF i).2 (.inr (.inr (.inr (.inl hi)))))) : Chg F w w2).setCell (p := ⟨b, 2, none⟩) (fun _ => hself) _

/-- what a region 'd.pending = append(d.pending, e)' leaves -/
theorem after_pend {TD TE : TypeId} {w1 w2 : World} {F : Nat → Prop} {b : Nat} {d : DS} (h : DiskAt TD TE w1 F b d) {vP : Value} (hv : w1.cell? ⟨b, 2, none⟩ = some vP) (e : Ev) (o : Obj) {g cv : Nat}
    (hown : w2.ownsRow 0 TE 4 (.slice (some ⟨g, 0, none⟩) (d.pend.length + 1) cv) (d.pend.length + 1) (evCells d.pend ++ e.cells)) (hg : (w1.alloc o).drew.grownBy w2 vP.ownBlock) (hg2 : vP.ownBlock = some g ∨ g = (w1.alloc o).drew.heap.size)
    {wb : Nat} {x : Obj} (hbox : w1.heap[wb]? = some x) (hwb : ¬ F wb) :
    ∃ F3, DiskAt TD TE (w2.setCell ⟨b, 2, none⟩ (.slice (some ⟨g, 0, none⟩) (d.pend.length + 1) cv)) F3 b { d with pend := d.pend ++ [e] } ∧ (∀ k, F3 k → F k ∨ w1.heap.size ≤ k) ∧
      Chg F w1 (w2.setCell ⟨b, 2, none⟩ (.slice (some ⟨g, 0, none⟩) (d.pend.length + 1) cv)) ∧ (w2.setCell ⟨b, 2, none⟩ (.slice (some ⟨g, 0, none⟩) (d.pend.length + 1) cv)).heap[wb]? = some x := by
  have hblt := h.lt b h.self
  have hc : Below w1.heap.size w1 (w1.alloc o).drew := ((Below.refl _ w1).alloc (Nat.le_refl _) o).drew
  have hv' : (w1.alloc o).drew.cell? ⟨b, 2, none⟩ = some vP := cell_below hc hv
  obtain ⟨F3, h1, h2, h3⟩ := h.appPend hc e hv' hown hg (fun k hk => by
    simp only [Option.map_some, Option.some.injEq] at hk
    subst hk
    rcases hg2 with h4 | h4
    · exact .inl h4
    · exact .inr (by rw [h4]; exact hc.size))
  exact ⟨F3, h1, h2, h3, (h3.block wb (lt_of_heap hbox) hwb).trans hbox⟩

/-- what a thing done to the files leaves -/
theorem after_do {TD TE : TypeId} {w w' : World} {F : Nat → Prop} {b : Nat} {d : DS} (h : DiskAt TD TE w F b d) {m : Nat} (hm : w.cell? ⟨b, 0, none⟩ = some (.map (some m))) (hc : Chg (· = m) w w') {es : List (Ent Bs)} {c : Nat} {l : Files} (hM : MapB vs w' m es c) (hL : FilesR es l) :
    DiskAt TD TE w' F b { d with now := l } ∧ Chg F w w' := by
  obtain ⟨⟨mN, mS, vP, vT, esN, esS, cN, cS, hb, hMN, hFN, hMS, hFS, hne, hP, hT, hPT, hF⟩, hty⟩ := h
  have e0 : w.cell? ⟨b, 0, none⟩ = some (.map (some mN)) := cell_of_row w b 0 _ _ _ hb
  rw [hm] at e0
  obtain rfl : m = mN := by simpa using e0
  have h1 : b ≠ m := by intro e; subst e; rw [hMN.heap] at hb; cases hb
  have hr : ∀ {v : Value} {n : Nat} {xs : List Value}, w.ownsRow 0 TE 4 v n xs → ∀ k, v.ownBlock = some k → k ≠ m := by
    intro v n xs hv k hk e
    subst e
    rcases hv.2 with ⟨rfl, _⟩ | ⟨g, cap, cur, rfl, _, hg, _⟩
    · cases hk
    · simp only [Value.ownBlock, Option.some.injEq] at hk
      subst hk
      rw [hMN.heap] at hg; cases hg
  refine ⟨⟨⟨m, mS, vP, vT, es, esS, c, cS, (hc.block b (lt_of_heap hb) h1).trans hb, hM, hL, hMS.kept hc (Ne.symm hne), hFS, hne, ownsRow_chg hP hc (hr hP), ownsRow_chg hT hc (hr hT), hPT, hF⟩, hty⟩, ?_⟩
  exact hc.mono (fun k _ e => by subst e; exact (hF _).2 (.inr (.inl rfl)))

set_option maxRecDepth 100000 in
set_option maxHeartbeats 2000000 in
theorem done_sync (F : Nat → Prop) (b : Nat) (d : DS) (w : World) (h : DiskAt 62 89 w F b d) (hd : d.dead = false) (hf : d.fuse ≠ 0) (hlf : -9223372036854775808 ≤ d.fuse ∧ d.fuse ≤ 9223372036854775807) (hlen : d.trace.length ≤ 1000000000) (name to_ data : Bs) :
    Calls Tryz.prog 62 #[.pointer (some ⟨b, 0, none⟩), .agg #[.int .i64 5, vs name, vs to_, vs data]] w fun r w' => r = .returned (.int .i64 0) ∧ ∃ F', DiskAt 62 89 w' F' b (d.done ⟨5, name, to_, data⟩).1 ∧ (∀ k, F' k → F k ∨ w.heap.size ≤ k) ∧ Chg F w w' := by
  have H := Lib.hid h
  obtain ⟨⟨mN, mS, vP, vT, esN, esS, cN, cS, hb, hMN, hFN, hMS, hFS, hne, hP, hT, hPT, hF⟩, hty⟩ := h
  have hblt := lt_of_heap hb
  have c0 := cell_of_row w b 0 _ _ _ hb
  have c3 := cell_of_row w b 3 _ _ _ hb
  have c5 := cell_of_row w b 5 _ _ _ hb
  have c6 := cell_of_row w b 6 _ _ _ hb
  have f1 := frozen_of_row w b 1 _ _ hb
  have f2 := frozen_of_row w b 2 _ _ hb
  have f3 := frozen_of_row w b 3 _ _ hb
  have f5 := frozen_of_row w b 5 _ _ hb
  simp only [List.getElem?_toArray, List.getElem?_cons_zero, List.getElem?_cons_succ] at c0 c3 c5 c6
  rw [hd] at c6
  have hf' : (d.fuse == 0) = false := by simpa using hf
  have HT := Lib.hid hT
  clear hb hMN hFN hMS hFS hne hP hT hPT hF hty
  by_cases hpos : 0 < d.fuse
  · have HD1 := fun o => Lib.hid ((H.out.setFuse (d.fuse - 1)).keptB ((Below.refl _ _).alloc (Nat.le_refl _) o))
    go_enter Tryz.func62, Tryz.ntmps62
    go_wp2
    obtain ⟨w1, ew, hd1, hbox, hch1⟩ : ∃ w1, w1 = (w.setCell ⟨b, 5, none⟩ (.int .i64 (d.fuse - 1))).alloc (.cells #[.int .i64 5, vs name, vs to_, vs data] 89) ∧ DiskAt 62 89 w1 F b d.burnt ∧ w1.heap[w.heap.size]? = some (.cells #[.int .i64 5, vs name, vs to_, vs data] 89 (0, 0)) ∧ Chg F w w1 := ⟨_, rfl, by have := (HD1 (.cells #[.int .i64 5, vs name, vs to_, vs data] 89)).out; simpa only [DS.burnt, if_pos hpos] using this, by have := heap_alloc_new (w.setCell ⟨b, 5, none⟩ (.int .i64 (d.fuse - 1))) (.cells #[.int .i64 5, vs name, vs to_, vs data] 89); simpa [World.setCell] using this, ((Chg.refl F w).setCell (p := ⟨b, 5, none⟩) (fun _ => H.out.self) _).alloc _⟩
    rw [← ew]
    clear ew
    have g0 := cell_of_row w1 _ 0 _ _ _ hbox
    have g1 := cell_of_row w1 _ 1 _ _ _ hbox
    have g2 := cell_of_row w1 _ 2 _ _ _ hbox
    have g3 := cell_of_row w1 _ 3 _ _ _ hbox
    simp only [List.getElem?_toArray, List.getElem?_cons_zero, List.getElem?_cons_succ] at g0 g1 g2 g3
    have HDD := Lib.hid hd1
    have HNF := Lib.hid (fun h1 => by have := H.out.lt _ h1; omega : ¬ F w.heap.size)
    obtain ⟨⟨mN, mS, vP, vT, esN, esS, cN, cS, hb, hMN, hFN, hMS, hFS, hne, hP, hT, hPT, hF⟩, hty⟩ := hd1
    have k3 := cell_of_row w1 b 3 _ _ _ hb
    simp only [List.getElem?_toArray, List.getElem?_cons_zero, List.getElem?_cons_succ] at k3
    have hfr3 := frozen_of_row w1 b 3 _ _ hb
    have hbs := lt_of_heap hb
    have hnb := own_ne hT hb hty
    have HB1 := Lib.hid hb
    have hown1 := Lib.hid hT
    have hlt1 := Lib.hid (fun k hk => (hT.lt k hk).2)
    clear hb hMN hFN hMS hFS hne hP hPT hF hty c0 c3 c5 c6 f1 f2 f3 f5
    have how : ∀ o, (w1.alloc o).drew.ownsRow 0 89 4 vT d.trace.length (evCells d.trace) := fun o => ownsRow_chg hown1.out (S := fun _ => False) (((Chg.refl _ w1).alloc o).drew) (fun _ _ h => h)
    have hone : ∀ u ∈ [Value.int .i64 5, vs name, vs to_, vs data], u.oneCell' = true := by
      intro u hu; simp only [List.mem_cons, List.not_mem_nil, or_false] at hu; rcases hu with rfl | rfl | rfl | rfl <;> rfl
    have l1 : d.trace.length + 1 ≤ 1000000000000 := by omega
    have l2 : (d.trace.length + 1) * 56 ≤ 140737488355328 := by omega
    have hbd : ∀ o, (w1.alloc o).drew.heap[b]? = w1.heap[b]? := fun o => Below.heap_alloc w1 o b hbs
    have hbl : ∀ o, b < (w1.alloc o).drew.heap.size := fun o => by show b < (w1.alloc o).heap.size; simp; omega
    have HW := Lib.hid how; have HO := Lib.hid hone; have HD := Lib.hid hbd; have HL := Lib.hid hbl
    clear how hone hbd hbl
    go_region_law (refine step_app Tryz.eventT rfl (.tmp 35) (.tmp 37) rfl 0 vT d.trace.length (evCells d.trace) ?s1 (HW.out _) w1.heap.size 1 1 [.int .i64 5, vs name, vs to_, vs data] (0, 0) ?s2 (heap_alloc_new w1 _) rfl HO.out (Nat.zero_lt_one) l1 l2 (Nat.zero_le _) ?_; (case s1 => simp [Act.eval, Act.put]); (case s2 => simp [Act.eval, Act.put]); intro g cv w2 hown2 hgrow2 hg2; have hb2 := (hgrow2.block b (HL.out _) (fun e => hnb e.symm)).trans ((HD.out _).trans HB1.out); have k3' := cell_of_row w2 b 3 _ _ _ hb2; have hfr3' := frozen_of_row w2 b 3 _ _ hb2; simp only [List.getElem?_toArray, List.getElem?_cons_zero, List.getElem?_cons_succ] at k3'; have HB2 := Lib.hid hb2; clear hb2)
    all_goals
      have hlt1' := lt_of_heap hbox
      obtain ⟨F3, hd3, hF3, hch3, hbox3⟩ := after_trace HDD.out k3 ⟨5, name, to_, data⟩ _ hown2 hgrow2 hg2 hbox HNF.out
      simp only [show d.burnt.trace.length = d.trace.length from rfl] at hd3 hch3 hbox3
      clear hown2 hgrow2 hg2 k3' hfr3' HB2
      generalize (w2.setCell ⟨b, 3, none⟩ (.slice (some ⟨g, 0, none⟩) (d.trace.length + 1) cv)) = w3 at *
      have j0 := cell_of_row w3 _ 0 _ _ _ hbox3
      simp only [List.getElem?_toArray, List.getElem?_cons_zero, List.getElem?_cons_succ] at j0
      have HD3 := Lib.hid hd3
      obtain ⟨⟨mN, mS, vP, vT, esN, esS, cN, cS, hb, hMN, hFN, hMS, hFS, hne, hP, hT, hPT, hF⟩, hty⟩ := hd3
      have e0 := cell_of_row w3 b 0 _ _ _ hb
      simp only [List.getElem?_toArray, List.getElem?_cons_zero, List.getElem?_cons_succ] at e0
      have HMN := Lib.hid hMN
      have HFN := Lib.hid hFN
      clear hb hMN hFN hMS hFS hne hP hPT hF hty hT hbox3
      go_wp2_with fail
      refine (clone_any mN esN cN w3 HMN.out).mono ?_
      rintro e w4 ⟨rfl, hM4, hb4⟩
      have hd4 := HD3.out.keptB hb4
      obtain ⟨F5, hd5, hF5⟩ := (after_sync hd4 hM4 HFN.out (fun h1 => by have := HD3.out.lt _ h1; omega))
      have HD5 := Lib.hid hd5
      clear hd5
      have hself4 := hd4.self
      obtain ⟨⟨mN4, mS4, vP4, vT4, esN4, esS4, cN4, cS4, hbb, _, _, _, _, _, _, _, _, _⟩, _⟩ := hd4
      have p1 := cell_of_row w4 b 1 _ _ _ hbb
      have p2 := cell_of_row w4 b 2 _ _ _ hbb
      have q1 := frozen_of_row w4 b 1 _ _ hbb
      have q2 := frozen_of_row w4 b 2 _ _ hbb
      simp only [List.getElem?_toArray, List.getElem?_cons_zero, List.getElem?_cons_succ] at p1 p2
      clear hbb hM4 e0 j0
      go_wp2_with fail
      go_ret
      refine ⟨rfl, F5, ?_, ?_, ?_⟩
      · have : (d.done ⟨5, name, to_, data⟩).1 = { d.burnt with trace := d.trace ++ [⟨5, name, to_, data⟩], sure := d.now, pend := [] } := by
          simp [DS.done, hd, hf]
        rw [this]
        exact HD5.out
      · intro k h6
        rcases hF5 k h6 with h6 | h6
        · rcases hF3 k h6 with h7 | h7
          · exact .inl h7
          · exact .inr (by omega)
        · right; rw [h6]; exact Nat.le_trans (Nat.le_of_lt hlt1') hch3.size
      · have h7 : Chg F w3 ((w4.setCell ⟨b, 1, none⟩ (.map (some w3.heap.size))).setCell ⟨b, 2, none⟩ (.slice none 0 0)) := (Chg.of_below hb4).trans' (chg2 w4 b 1 2 _ _) (fun i _ h6 => by subst h6; exact H.out.self)
        exact (hch1.trans hch3).trans h7
  · have HD1 := fun o => Lib.hid (H.out.keptB ((Below.refl _ w).alloc (Nat.le_refl _) o))
    go_enter Tryz.func62, Tryz.ntmps62
    go_wp2
    obtain ⟨w1, ew, hd1, hbox, hch1⟩ : ∃ w1, w1 = w.alloc (.cells #[.int .i64 5, vs name, vs to_, vs data] 89) ∧ DiskAt 62 89 w1 F b d.burnt ∧ w1.heap[w.heap.size]? = some (.cells #[.int .i64 5, vs name, vs to_, vs data] 89 (0, 0)) ∧ Chg F w w1 := ⟨_, rfl, by have := (HD1 (.cells #[.int .i64 5, vs name, vs to_, vs data] 89)).out; simpa only [DS.burnt, if_neg (show ¬ 0 < d.fuse from by omega)] using this, heap_alloc_new w _, (Chg.refl F w).alloc _⟩
    rw [← ew]
    clear ew
    have g0 := cell_of_row w1 _ 0 _ _ _ hbox
    have g1 := cell_of_row w1 _ 1 _ _ _ hbox
    have g2 := cell_of_row w1 _ 2 _ _ _ hbox
    have g3 := cell_of_row w1 _ 3 _ _ _ hbox
    simp only [List.getElem?_toArray, List.getElem?_cons_zero, List.getElem?_cons_succ] at g0 g1 g2 g3
    have HDD := Lib.hid hd1
    have HNF := Lib.hid (fun h1 => by have := H.out.lt _ h1; omega : ¬ F w.heap.size)
    obtain ⟨⟨mN, mS, vP, vT, esN, esS, cN, cS, hb, hMN, hFN, hMS, hFS, hne, hP, hT, hPT, hF⟩, hty⟩ := hd1
    have k3 := cell_of_row w1 b 3 _ _ _ hb
    simp only [List.getElem?_toArray, List.getElem?_cons_zero, List.getElem?_cons_succ] at k3
    have hfr3 := frozen_of_row w1 b 3 _ _ hb
    have hbs := lt_of_heap hb
    have hnb := own_ne hT hb hty
    have HB1 := Lib.hid hb
    have hown1 := Lib.hid hT
    have hlt1 := Lib.hid (fun k hk => (hT.lt k hk).2)
    clear hb hMN hFN hMS hFS hne hP hPT hF hty c0 c3 c5 c6 f1 f2 f3 f5
    have how : ∀ o, (w1.alloc o).drew.ownsRow 0 89 4 vT d.trace.length (evCells d.trace) := fun o => ownsRow_chg hown1.out (S := fun _ => False) (((Chg.refl _ w1).alloc o).drew) (fun _ _ h => h)
    have hone : ∀ u ∈ [Value.int .i64 5, vs name, vs to_, vs data], u.oneCell' = true := by
      intro u hu; simp only [List.mem_cons, List.not_mem_nil, or_false] at hu; rcases hu with rfl | rfl | rfl | rfl <;> rfl
    have l1 : d.trace.length + 1 ≤ 1000000000000 := by omega
    have l2 : (d.trace.length + 1) * 56 ≤ 140737488355328 := by omega
    have hbd : ∀ o, (w1.alloc o).drew.heap[b]? = w1.heap[b]? := fun o => Below.heap_alloc w1 o b hbs
    have hbl : ∀ o, b < (w1.alloc o).drew.heap.size := fun o => by show b < (w1.alloc o).heap.size; simp; omega
    have HW := Lib.hid how; have HO := Lib.hid hone; have HD := Lib.hid hbd; have HL := Lib.hid hbl
    clear how hone hbd hbl
    go_region_law (refine step_app Tryz.eventT rfl (.tmp 35) (.tmp 37) rfl 0 vT d.trace.length (evCells d.trace) ?s1 (HW.out _) w1.heap.size 1 1 [.int .i64 5, vs name, vs to_, vs data] (0, 0) ?s2 (heap_alloc_new w1 _) rfl HO.out (Nat.zero_lt_one) l1 l2 (Nat.zero_le _) ?_; (case s1 => simp [Act.eval, Act.put]); (case s2 => simp [Act.eval, Act.put]); intro g cv w2 hown2 hgrow2 hg2; have hb2 := (hgrow2.block b (HL.out _) (fun e => hnb e.symm)).trans ((HD.out _).trans HB1.out); have k3' := cell_of_row w2 b 3 _ _ _ hb2; have hfr3' := frozen_of_row w2 b 3 _ _ hb2; simp only [List.getElem?_toArray, List.getElem?_cons_zero, List.getElem?_cons_succ] at k3'; have HB2 := Lib.hid hb2; clear hb2)
    all_goals
      have hlt1' := lt_of_heap hbox
      obtain ⟨F3, hd3, hF3, hch3, hbox3⟩ := after_trace HDD.out k3 ⟨5, name, to_, data⟩ _ hown2 hgrow2 hg2 hbox HNF.out
      simp only [show d.burnt.trace.length = d.trace.length from rfl] at hd3 hch3 hbox3
      clear hown2 hgrow2 hg2 k3' hfr3' HB2
      generalize (w2.setCell ⟨b, 3, none⟩ (.slice (some ⟨g, 0, none⟩) (d.trace.length + 1) cv)) = w3 at *
      have j0 := cell_of_row w3 _ 0 _ _ _ hbox3
      simp only [List.getElem?_toArray, List.getElem?_cons_zero, List.getElem?_cons_succ] at j0
      have HD3 := Lib.hid hd3
      obtain ⟨⟨mN, mS, vP, vT, esN, esS, cN, cS, hb, hMN, hFN, hMS, hFS, hne, hP, hT, hPT, hF⟩, hty⟩ := hd3
      have e0 := cell_of_row w3 b 0 _ _ _ hb
      simp only [List.getElem?_toArray, List.getElem?_cons_zero, List.getElem?_cons_succ] at e0
      have HMN := Lib.hid hMN
      have HFN := Lib.hid hFN
      clear hb hMN hFN hMS hFS hne hP hPT hF hty hT hbox3
      go_wp2_with fail
      refine (clone_any mN esN cN w3 HMN.out).mono ?_
      rintro e w4 ⟨rfl, hM4, hb4⟩
      have hd4 := HD3.out.keptB hb4
      obtain ⟨F5, hd5, hF5⟩ := (after_sync hd4 hM4 HFN.out (fun h1 => by have := HD3.out.lt _ h1; omega))
      have HD5 := Lib.hid hd5
      clear hd5
      have hself4 := hd4.self
      obtain ⟨⟨mN4, mS4, vP4, vT4, esN4, esS4, cN4, cS4, hbb, _, _, _, _, _, _, _, _, _⟩, _⟩ := hd4
      have p1 := cell_of_row w4 b 1 _ _ _ hbb
      have p2 := cell_of_row w4 b 2 _ _ _ hbb
      have q1 := frozen_of_row w4 b 1 _ _ hbb
      have q2 := frozen_of_row w4 b 2 _ _ hbb
      simp only [List.getElem?_toArray, List.getElem?_cons_zero, List.getElem?_cons_succ] at p1 p2
      clear hbb hM4 e0 j0
      go_wp2_with fail
      go_ret
      refine ⟨rfl, F5, ?_, ?_, ?_⟩
      · have : (d.done ⟨5, name, to_, data⟩).1 = { d.burnt with trace := d.trace ++ [⟨5, name, to_, data⟩], sure := d.now, pend := [] } := by
          simp [DS.done, hd, hf]
        rw [this]
        exact HD5.out
      · intro k h6
        rcases hF5 k h6 with h6 | h6
        · rcases hF3 k h6 with h7 | h7
          · exact .inl h7
          · exact .inr (by omega)
        · right; rw [h6]; exact Nat.le_trans (Nat.le_of_lt hlt1') hch3.size
      · have h7 : Chg F w3 ((w4.setCell ⟨b, 1, none⟩ (.map (some w3.heap.size))).setCell ⟨b, 2, none⟩ (.slice none 0 0)) := (Chg.of_below hb4).trans' (chg2 w4 b 1 2 _ _) (fun i _ h6 => by subst h6; exact H.out.self)
        exact (hch1.trans hch3).trans h7
end Go.Proofs.YtahdldbfcjbklaaGreat
