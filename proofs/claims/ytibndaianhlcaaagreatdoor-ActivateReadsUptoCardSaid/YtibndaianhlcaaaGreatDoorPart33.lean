/- ref21.System walked: the system of some entries, or none. -/
import Derived.Test.YtibndaianhlcaaaGreatDoorPart29
import Derived.Test.YtibndaianhlcaaaGreatDoorPart32
import Derived.Test.YtibndaianhlcaaaGreatDoorPart16
namespace Go.Proofs.YtibndaianhlcaaaGreatDoor
open Go.RowKit Go.Sort Go.Shelf
set_option linter.unusedVariables false
set_option linter.unusedSimpArgs false

theorem ShareE.keepB {w w' : World} {D base : Nat} {v : Value} {n : Nat} {es : List EV} (h : ShareE w D base v n es) (hb : ∀ k, (base ≤ k ∧ k < w.heap.size) ∨ k < D → w'.heap[k]? = w.heap[k]?) : ShareE w' D base v n es :=
  ⟨own_keep h.own (fun k hk => hb k (.inl (h.own.lt k hk))), fun e he => (h.data e he).keep (fun p hp => World.cell?_of_block (hb p.block (.inr hp))), h.le⟩
theorem ShareE.ents {w : World} {D base : Nat} {A : Option Addr} {n c : Nat} {es : List EV} (h : ShareE w D base (.slice A n c) n es) (hD : D ≤ w.heap.size) : EntsAt w w.heap.size A n c es :=
  ⟨own_slc_of h.own, h.len, fun e he => (h.data e he).more hD⟩
/-- One entry is read. -/
structure RefPut (w wr : World) (A' : Option Addr) (k c' : Nat) (es : List EV) (e : EV) (A6 : Option Addr) (c6 : Nat) (w6 : World) : Prop where
  r6 : (Builtin.append_ #[22, 22] 22 #[.slice A' k c', .slice (some ⟨wr.heap.size + 1, 0, none⟩) 1 1]).run Tryz.prog ((wr.alloc (.cells #[.string ⟨(trimE e.path).toArray⟩, .int .i64 e.kind, .slice e.A e.n e.c] 35)).alloc (.cells #[.string ⟨(trimE e.path).toArray⟩, .int .i64 e.kind, .slice e.A e.n e.c] 35)) = .ok (.slice A6 (k + 1) c6) w6
  s6 : Blk w6 (w.heap.size + 1) 26 #[.slice A' k c', .slice none 0 0, .slice none 0 0]
  own : ShareE (w6.setCell ⟨w.heap.size + 1, 0, none⟩ (.slice A6 (k + 1) c6)) w.heap.size (w.heap.size + 2) (.slice A6 (k + 1) c6) (k + 1) (es ++ [⟨trimE e.path, e.kind, e.data, e.A, e.n, e.c⟩])
  bel : Below (w.heap.size + 2) (WX w (.slice A6 (k + 1) c6)) (w6.setCell ⟨w.heap.size + 1, 0, none⟩ (.slice A6 (k + 1) c6))
theorem ref_put {w wr : World} {A' : Option Addr} {k c' : Nat} {es : List EV} (h : ShareE wr w.heap.size (w.heap.size + 2) (.slice A' k c') k es) (hb : Below (w.heap.size + 2) (WX w (.slice A' k c')) wr) (e : EV) (hS : Slc wr w.heap.size 1 e.A e.n e.c (e.data.map bv)) (hk : k ≤ 1000000000) :
    ∃ A6 c6 w6, RefPut w wr A' k c' es e A6 c6 w6 := by
  have hz := WX_size w (.slice A' k c')
  have hs := hb.size
  rw [hz] at hs
  obtain ⟨W1, hW1⟩ : ∃ W1, W1 = wr.alloc (.cells #[.string ⟨(trimE e.path).toArray⟩, .int .i64 e.kind, .slice e.A e.n e.c] 35) := ⟨_, rfl⟩
  have hb1 : Below wr.heap.size wr W1 := by rw [hW1]; exact bel_new _ _
  have hz1 : W1.heap.size = wr.heap.size + 1 := by rw [hW1]; simp
  have h1 := h.below hb1 (by omega)
  obtain ⟨A6, c6, w6, r6, o6, d6, e6, g6⟩ := h1.append ⟨trimE e.path, e.kind, e.data, e.A, e.n, e.c⟩ rfl hk (by omega) (hS.below (hb1.mono (by omega))) (by omega) (fun q hq x hn hx => by
    have h9 := (h.own.lt q hq).1
    obtain ⟨b, off, e1, hlt, _⟩ := hS.at_ hn
    have : e.A = some x := hx
    rw [e1] at this
    injection this with this
    subst this
    show b ≠ q
    omega)
  have hX : Blk wr (w.heap.size + 1) 26 #[.slice A' k c', .slice none 0 0, .slice none 0 0] := (WX_box w _).below hb (by omega)
  have hX1 := hX.below hb1 hX.lt
  have hX6 : Blk w6 (w.heap.size + 1) 26 #[.slice A' k c', .slice none 0 0, .slice none 0 0] :=
    (g6.block (w.heap.size + 1) (Nat.lt_of_lt_of_le hX1.lt (by simp)) (fun e9 => by have := (h.own.lt _ e9.symm).1; omega)).trans (hX1.alloc _)
  have hb6 : Below (w.heap.size + 2) (WX w (.slice A' k c')) w6 := grown_below ((hb.trans (hb1.mono (by omega))).alloc (by omega) _) (h1.own.alloc _) (by simp; omega) g6
  rw [hz1, hW1] at r6
  refine ⟨A6, c6, w6, r6, hX6, ⟨own_keep o6 (fun i hi => Below.heap_setCell w6 _ _ i (fun e1 => by have := (o6.lt i hi).1; simp only at e1; omega)), fun x hx => ?_, by omega⟩, WX_set hb6⟩
  have hx6 : Slc w6 w.heap.size 1 x.A x.n x.c (x.data.map bv) := by
    rcases List.mem_append.1 hx with hx | hx
    · exact d6 x hx
    · rw [List.mem_singleton.1 hx]; exact e6
  exact hx6.keep (fun p hp => World.cell?_of_block (Below.heap_setCell w6 _ _ p.block (fun e1 => by simp only at e1; omega)))
def strN : Value → Nat
  | .string b => b.size
  | _ => 0
theorem front_after (c : UInt8) : ∀ (l : Txt), (frontT c l).length + (afterT c l).length ≤ l.length := fun l => by
  unfold frontT afterT
  have h := congrArg List.length (List.takeWhile_append_dropWhile (p := fun x => decide (x ≠ c)) (l := l))
  rw [List.length_append] at h
  rw [List.length_drop]
  omega
theorem text_cut {s : SysP} {t : Txt} : sysText s t = sysText (sysLine s (frontT 10 t)) (afterT 10 t) := by
  by_cases hm : (10 : UInt8) ∈ t
  · obtain ⟨a, b, rfl, hna⟩ := cutB_of_mem 10 t hm
    obtain ⟨f1, f2⟩ := front_line 10 a b hna
    rw [f1, f2, sys_line hna]
  · obtain ⟨f1, f2⟩ := front_none hm
    rw [f1, f2, text_last s hm]
theorem etc_take {p : Txt} : etcT.isPrefixOf p = true ↔ p.take 4 = [101, 116, 99, 47] := by
  rw [List.isPrefixOf_iff_prefix, List.prefix_iff_eq_take]
  exact ⟨fun h => h.symm, fun h => h.symm⟩
set_option maxRecDepth 100000 in
set_option maxHeartbeats 4000000 in
theorem refSys_none {w : World} {A : Option Addr} {c : Nat} : Calls Tryz.prog 30 #[.slice A 0 c] w (SysPost w [] (.bool true) (.bool false)) := by
  have HN := Lib.hid (show sysR [] = none from rfl)
  go_enter Tryz.func30, Tryz.ntmps30
  go_wp2
  have hB : Blk ((w.alloc (.cells #[.slice none 0 0, .slice none 0 0, .slice none 0 0] 26)).alloc (.cells #[.slice none 0 0, .slice none 0 0, .slice none 0 0] 26)) w.heap.size 26 #[.slice none 0 0, .slice none 0 0, .slice none 0 0] := (Blk.new _ _ _).alloc _
  refine bodyPost_ret (results_aggr2 (t := 2) (g := w.heap.size) rfl rfl Tryz.isAgg26 Tryz.sizeOf26 rfl hB) rfl ?_
  exact SysPost.none_ HN.out ((bel_new w _).alloc (by simp) _)
set_option maxRecDepth 100000 in
set_option maxHeartbeats 8000000 in
theorem refSys_any {w : World} {B : Nat} {A : Option Addr} {n c : Nat} {es : List EV} (h : EntsAt w B A n c es) (hB : B ≤ w.heap.size) (hs : SmallE n es) :
    Calls Tryz.prog 30 #[.slice A n c] w (SysPost w (es.map EV.ent) (.bool true) (.bool false)) := by
  rcases Nat.eq_zero_or_pos n with rfl | hpos
  · have hl := h.len
    obtain rfl : es = [] := List.eq_nil_of_length_eq_zero hl
    exact refSys_none
  obtain ⟨m, rfl⟩ : ∃ m, n = m + 1 := ⟨n - 1, by omega⟩
  obtain ⟨b, off, rfl, hbB, hlm, cm0, cm1, cm2, hSm⟩ := h.at_ (k := m) (by omega)
  have hsm := hs.ents _ (List.getElem_mem hlm)
  have hmn : m + 1 ≤ 1048576 := hs.n
  have hpush : ((m + 1 : Nat) : Int) - 1 = (m : Int) := by omega
  have hne : (((m + 1 : Nat) : Int) == 0) = false := by rw [beq_eq_false_iff_ne]; omega
  obtain ⟨data, hdata⟩ : ∃ data, data = es[m].data := ⟨_, rfl⟩
  have hlen := h.len
  have HLD := Lib.hid (show lastD (es.map EV.ent) = data by
    unfold lastD
    rw [List.getLast?_eq_getElem?, List.length_map, hlen, show m + 1 - 1 = m by omega, List.getElem?_eq_getElem (by rw [List.length_map]; exact hlm), List.getElem_map, hdata]
    rfl)
  have HDL := Lib.hid (show (es.map EV.ent).dropLast = (es.map EV.ent).take m by rw [List.dropLast_eq_take, List.length_map, hlen, show m + 1 - 1 = m by omega])
  have HNE := Lib.hid (show es.map EV.ent ≠ [] from fun e => by have := congrArg List.length e; rw [List.length_map, hlen] at this; simp at this)
  have hdl : data.length ≤ 1048576 := by rw [hdata]; exact hsm.2
  have HH := Lib.hid h
  have HB := Lib.hid hB
  have HS := Lib.hid hs
  have HO0 := Lib.hid (ShareE.nil (WX w (.slice none 0 0)) (D := w.heap.size) (base := w.heap.size + 2) (by omega))
  obtain ⟨L, hL⟩ : ∃ L, L = es.map EV.ent := ⟨_, rfl⟩
  have HLL := Lib.hid hL
  have HDT := Lib.hid hdata
  rw [← hL] at HLD HDL HNE ⊢
  clear h hB hs hpos hlen hL hdata hsm cm0 cm1 cm2 hSm
  go_enter Tryz.func30, Tryz.ntmps30
  go_wp2_with (fail)
  rw [show (w.alloc (.cells #[.slice none 0 0, .slice none 0 0, .slice none 0 0] 26)).alloc (.cells #[.slice none 0 0, .slice none 0 0, .slice none 0 0] 26) = WX w (.slice none 0 0) from rfl]
  go_loopw [5] (fun i wr => ∃ (k : Nat) (A' : Option Addr) (c' : Nat) (es' : List EV), k ≤ m ∧ i = .int .i64 (k : Int) ∧ Aside (ShareE wr w.heap.size (w.heap.size + 2) (.slice A' k c') k es') ∧ Aside (es'.map EV.ent = (L.take k).map partE) ∧ Aside (Below (w.heap.size + 2) (WX w (.slice A' k c')) wr)) (fun i _ => m - (intOf i).toNat)
  case atStart => exact ⟨0, none, 0, [], Nat.zero_le _, rfl, HO0.out, rfl, Below.refl _ _⟩
  case round =>
    obtain ⟨k, A', c', es', hk, rfl, ho, hmap, hb⟩ := hrel
    have HBW := Lib.hid ((WX_bel w (.slice A' k c')).trans (hb.out.mono (by omega)))
    have hsz : w.heap.size + 2 ≤ wr.heap.size := by have := hb.out.size; rw [WX_size] at this; exact this
    by_cases hlt : k < m
    · obtain ⟨b', off', hA, hbB', hl, c0, c1, c2, hS⟩ := (HH.out.below (HBW.out.mono HB.out)).at_ (k := k) (by omega)
      injection hA with hA
      injection hA with hA1 hA2
      subst hA1 hA2
      have hse := HS.out.ents _ (List.getElem_mem hl)
      have HIN := Lib.hid (show es[k].ent ∈ L.dropLast by
        rw [HDL.out, HLL.out, ← List.map_take]
        refine List.mem_map.2 ⟨es[k], ?_, rfl⟩
        exact List.mem_take_iff_getElem.2 ⟨k, by omega, rfl⟩)
      have HM := Lib.hid (show (L.take (k + 1)).map partE = (L.take k).map partE ++ [partE es[k].ent] by
        rw [List.take_succ_eq_append_getElem (by rw [HLL.out, List.length_map]; exact hl), List.map_append]
        simp only [HLL.out, List.getElem_map]
        rfl)
      generalize es[k] = e at *
      have hx4 : (ByteArray.mk e.path.toArray).extract 0 4 = ⟨(e.path.take 4).toArray⟩ := extW _ _ _
      have ht4 : (ByteArray.mk (e.path.take 4).toArray).toList = e.path.take 4 := Go.ByteArray.toList_eq _
      have hpl : e.path.length ≤ 1048576 := hse.1
      by_cases hpx : etcT.isPrefixOf e.path = true
      · have hp4 := etc_take.1 hpx
        have hl4 : ¬ e.path.length < 4 := fun h9 => by have := congrArg List.length hp4; rw [List.length_take] at this; simp at this; omega
        have hb4 : (e.path.take 4 == [101, 116, 99, 47]) = true := by rw [hp4]; rfl
        have htr : trimE e.path = e.path.drop 4 := by unfold trimE; rw [if_pos hpx]
        have hx5 : (ByteArray.mk e.path.toArray).extract 4 e.path.length = ⟨(trimE e.path).toArray⟩ := by
          rw [extW, List.take_of_length_le (by rw [List.length_drop]; exact Nat.le_refl _), htr]
        obtain ⟨A6, c6, w6, S⟩ := ref_put ho.out hb.out e (hS.more HB.out) (by omega)
        have HR6 := Lib.hid S.r6
        have HO6 := Lib.hid S.own
        have HB6 := Lib.hid S.bel
        have hX : Blk wr (w.heap.size + 1) 26 #[.slice A' k c', .slice none 0 0, .slice none 0 0] := (WX_box w _).below hb.out (by omega)
        have y0 := (hX.alloc (.cells #[.string ⟨(trimE e.path).toArray⟩, .int .i64 e.kind, .slice e.A e.n e.c] 35)).cell 0
        have z0 := S.s6.cell 0
        have f0 := S.s6.frozen 0
        simp only [List.getElem?_toArray, List.getElem?_cons_zero, List.getElem?_cons_succ] at y0 z0
        clear S hS hse hpx hp4 htr hX
        go_wp2_with (at_builtin; refine wpList_append_run rfl _ _ _ rfl rfl rfl HR6.out ?_; clear HR6)
        exact ⟨⟨k + 1, by omega, by go_num, A6, c6, es' ++ [(⟨trimE e.path, e.kind, e.data, e.A, e.n, e.c⟩ : EV)], HO6.out, (show (_ : List Ent) = _ by rw [List.map_append, hmap.out]; first | exact HM.out.symm | (rw [← List.map_take]; exact HM.out.symm)), HB6.out⟩, by simp [intOf]; omega⟩
      · have hpf : etcT.isPrefixOf e.path = false := by
          cases h9 : etcT.isPrefixOf e.path with
          | false => rfl
          | true => exact absurd h9 hpx
        have HN := Lib.hid (sys_bad (es := L) (x := e.ent) HIN.out hpf)
        have hp4 : ¬ e.path.take 4 = [101, 116, 99, 47] := fun h9 => hpx (etc_take.2 h9)
        have hb4 : (e.path.take 4 == [101, 116, 99, 47]) = false := by rw [beq_eq_false_iff_ne]; exact hp4
        have hR : Blk wr w.heap.size 26 #[.slice none 0 0, .slice none 0 0, .slice none 0 0] := (WX_res w _).below hb.out (by omega)
        have hR1 := hR.alloc (.cells #[.string ⟨e.path.toArray⟩, .int .i64 e.kind, .slice e.A e.n e.c] 35)
        have y0 := hR1.cell 0
        have y1 := hR1.cell 1
        have y2 := hR1.cell 2
        have f0 := hR1.frozen 0
        have f1 := hR1.frozen 1
        have f2 := hR1.frozen 2
        simp only [List.getElem?_toArray, List.getElem?_cons_zero, List.getElem?_cons_succ] at y0 y1 y2
        have HR1 := Lib.hid hR1
        have HBN := Lib.hid (HBW.out.trans ((bel_new wr (.cells #[.string ⟨e.path.toArray⟩, .int .i64 e.kind, .slice e.A e.n e.c] 35)).mono HBW.out.size))
        clear hS hse hpx hpf hp4 hR hR1
        have hq : e.path.length < 4 ∨ ¬ e.path.length < 4 := by omega
        rcases hq with hl4 | hl4
        all_goals
          go_wp2_with (fail)
          refine bodyPost_ret (results_aggr2 (t := 2) (g := w.heap.size) rfl rfl Tryz.isAgg26 Tryz.sizeOf26 rfl (put3_blk HR1.out (.slice none 0 0) (.slice none 0 0) (.slice none 0 0))) rfl ?_
          exact SysPost.none_ HN.out (HBN.out.trans ((put3_step _ w.heap.size _ _ _).below (B := w.heap.size) HBN.out.size (fun i hi => by omega)))
    · obtain rfl : k = m := by omega
      obtain ⟨b', off', hA, hbB', hl, c0, c1, c2, hS⟩ := (HH.out.below (HBW.out.mono HB.out)).at_ (k := k) (by omega)
      injection hA with hA
      injection hA with hA1 hA2
      subst hA1 hA2
      have hdd : es[k].data = data := HDT.out.symm
      have hcv := convert_bytes (P := Tryz.prog) (src := 33) Tryz.underlying33 Tryz.underlying5 hS 9 Tryz.underlying9
      rw [hdd] at hcv
      obtain ⟨FS, hFS⟩ : ∃ FS, FS = L.dropLast.map partE := ⟨_, rfl⟩
      have HFS := Lib.hid hFS
      have HMP := Lib.hid (show es'.map EV.ent = FS by rw [hmap.out, hFS, HDL.out])
      have HOE := Lib.hid ho.out
      have HBE := Lib.hid hb.out
      have HSB := Lib.hid (show ∀ e ∈ es', e.path.length ≤ 1048576 ∧ e.data.length ≤ 1048576 from fun e he => by
        have hm : e.ent ∈ (L.take k).map partE := by rw [← hmap.out]; exact List.mem_map.2 ⟨e, he, rfl⟩
        obtain ⟨x0, hx0, hxe⟩ := List.mem_map.1 hm
        have hx1 := List.mem_of_mem_take hx0
        rw [HLL.out] at hx1
        obtain ⟨e1, he1, rfl⟩ := List.mem_map.1 hx1
        have h1 := HS.out.ents e1 he1
        have p1 : e.path = trimE e1.path := (congrArg Ent.path hxe).symm
        have p2 : e.data = e1.data := (congrArg Ent.data hxe).symm
        rw [p1, p2]
        refine ⟨?_, h1.2⟩
        unfold trimE
        split
        · rw [List.length_drop]; exact Nat.le_trans (Nat.sub_le _ _) h1.1
        · exact h1.1)
      have hbox5 : Blk wr (w.heap.size + 1) 26 #[.slice A' k c', .slice none 0 0, .slice none 0 0] := (WX_box w _).below hb.out (by omega)
      have HR5 := Lib.hid (show Blk wr w.heap.size 26 #[.slice none 0 0, .slice none 0 0, .slice none 0 0] from (WX_res w _).below hb.out (by omega))
      have HI0 := Lib.hid (show SysAt wr (fun q => q = w.heap.size + 1) (w.heap.size + 1) wr.heap.size (.slice A' k c') ⟨FS, [], []⟩ wr from SysAt.begin hbox5 rfl (Nat.le_refl _))
      have HTX0 := Lib.hid (show sysText ⟨FS, [], []⟩ data = partS L by unfold partS; rw [HLD.out, ← HFS.out])
      have HSZR := Lib.hid hsz
      clear hmap ho hb hdd hFS hS hbox5 hsz
      generalize es[k] = e at *
      go_wp2_with (fail)
      obtain ⟨w1, rfl⟩ : ∃ w1, w1 = wr := ⟨_, rfl⟩
      clear hcv c0 c1 c2
      go_loopw [7] (fun s7 W => ∃ (rest : Txt) (st : SysP) (kk : Nat), s7 = .string ⟨rest.toArray⟩ ∧ Aside (sysText st rest = partS L) ∧ Aside (CapS st kk 1048576) ∧ Aside (kk + rest.length ≤ 1048576) ∧ Aside (SysAt w1 (fun q => q = w.heap.size + 1) (w.heap.size + 1) w1.heap.size (.slice A' k c') st W)) (fun s7 _ => strN s7)
      case atStart => exact ⟨data, ⟨FS, [], []⟩, 0, rfl, HTX0.out, CapS.nil FS 1048576, (by show 0 + data.length ≤ 1048576; omega), HI0.out⟩
      case round =>
        obtain ⟨rest, st, kk, rfl, htx, hcap, hkk, hI⟩ := hrel
        have hkr := hkk.out
        have htl : (ByteArray.mk rest.toArray).toList = rest := Go.ByteArray.toList_eq _
        obtain ⟨F, A2, n2, c2, users, A3, n3, c3, us, hSI, hu, hus⟩ := hI.out
        have hn2 : n2 ≤ 1048576 := by have h1 := hSI.users.own.1; have h2 := hcap.out.users; rw [← hu] at h2; simp at h1; omega
        have hn3 : n3 ≤ 1048576 := by have h1 := hSI.units.own.len; have h2 := hcap.out.units; rw [← hus, List.length_map] at h2; omega
        have hHW : w1.heap.size ≤ wr.heap.size := hSI.step.size
        have HSI := Lib.hid hSI
        have HU := Lib.hid hu
        have HUS := Lib.hid hus
        have HCP := Lib.hid hcap.out
        clear hI hSI hu hus
        by_cases hr0 : rest = []
        · subst hr0
          obtain rfl : st = partS L := by rw [← htx.out, text_none]
          have hcap := hcap.out.more (k' := 1048576) (by omega)
          have hpf : (partS L).files = FS := (part_files L).trans HFS.out.symm
          have hzr := HSZR.out
          have hlow : ∀ i, i < w1.heap.size → i ≠ w.heap.size + 1 → wr.heap[i]? = w1.heap[i]? := fun i h1 h2 => HSI.out.step.block i h1 h2
          have hown : ShareE wr w.heap.size (w.heap.size + 2) (.slice A' k c') k es' := HOE.out.keepB (fun i hi => hlow i (by omega) (by omega))
          have hobs : ObsAt wr wr.heap.size ⟨A', k, c', es', A2, n2, c2, users, A3, n3, c3, us⟩ := HSI.out.obs (hown.ents (by omega))
          have hsys : sysO ⟨A', k, c', es', A2, n2, c2, users, A3, n3, c3, us⟩ = partS L := by
            show (⟨es'.map EV.ent, users, us.map SV.srv⟩ : SysP) = partS L
            rw [HMP.out, HU.out, HUS.out, ← hpf]
          have hl2 : n2 = users.length := by have := HSI.out.users.own.1; simp at this; omega
          have hl3 : n3 = us.length := HSI.out.units.own.len.symm
          have hsml : SmallO ⟨A', k, c', es', A2, n2, c2, users, A3, n3, c3, us⟩ := Capsmall hcap (Nat.le_refl _) HU.out HUS.out HSB.out (by simp only; omega) hl2 hl3 (fun u hm => by
            have q1 := (HSI.out.units.own.req u hm).own.1
            have q2 := (HSI.out.units.own.aft u hm).own.1
            simp only [List.length_map, Nat.mul_one] at q1 q2
            exact ⟨q1.symm, q2.symm⟩)
          have hbw : Below w.heap.size w wr := HBW.out.trans (HSI.out.step.below (B := w.heap.size) HBW.out.size (fun i hi => by omega))
          have hr := refRight21_any hobs (Nat.le_refl _) hsml
          rw [hsys] at hr
          have hres : Blk wr w.heap.size 26 #[.slice none 0 0, .slice none 0 0, .slice none 0 0] := (hlow _ (by omega) (by omega)).trans HR5.out
          have u0 := HSI.out.box.cell 0
          have u1 := HSI.out.box.cell 1
          have u2 := HSI.out.box.cell 2
          simp only [List.getElem?_toArray, List.getElem?_cons_zero, List.getElem?_cons_succ] at u0 u1 u2
          have HHO := Lib.hid (HH.out.below (hbw.mono HB.out))
          have HOB := Lib.hid hobs
          have HSM := Lib.hid hsml
          have HSY := Lib.hid hsys
          have HLB := Lib.hid (Nat.le_trans HB.out hbw.size)
          have HLW := Lib.hid hlow
          have HRS2 := Lib.hid (fun (W9 : World) (h9 : Below wr.heap.size wr W9) => show Blk W9 w.heap.size 26 #[.slice none 0 0, .slice none 0 0, .slice none 0 0] ∧ Below w.heap.size w W9 from ⟨hres.below h9 hres.lt, hbw.trans (h9.mono hbw.size)⟩)
          have HPT := Lib.hid (fun (W9 : World) (a b c : Value) (h9 : Below wr.heap.size wr W9) => show Blk (put3W W9 w.heap.size a b c) w.heap.size 26 #[a, b, c] ∧ Below w.heap.size w (put3W W9 w.heap.size a b c) from by
            obtain ⟨q1, q3⟩ := HRS2.out W9 h9
            exact ⟨put3_blk q1 a b c, q3.trans ((put3_step W9 w.heap.size a b c).below (B := w.heap.size) q3.size (fun i hi => by omega))⟩)
          have HBXC := Lib.hid (fun (W' : World) (hW : Below wr.heap.size wr W') => show W'.cell? ⟨w.heap.size + 1, 0, none⟩ = some (.slice A' k c') ∧ W'.cell? ⟨w.heap.size + 1, 1, none⟩ = some (.slice A2 n2 c2) ∧ W'.cell? ⟨w.heap.size + 1, 2, none⟩ = some (.slice A3 n3 c3) from
            have h9 := HSI.out.box.below hW HSI.out.box.lt
            ⟨h9.cell 0, h9.cell 1, h9.cell 2⟩)
          cases hrt : rightS (partS L) with
          | false =>
            rw [hrt] at hr
            unfold ovArr at hr
            simp only at hr
            have HN := Lib.hid (sys_none (L := L) (.inl hrt))
            clear hcap hpf hlow hown hobs hsys hl2 hl3 hsml hbw hres hrt hkk htx
            go_wp2_with (go_at_call 16; refine hr.mono ?_; clear hr; rintro e7 w7 ⟨rfl, hb7⟩; have h7 := (HRS2.out _ hb7).1; have y0 := h7.cell 0; have y1 := h7.cell 1; have y2 := h7.cell 2; have f0 := h7.frozen 0; have f1 := h7.frozen 1; have f2 := h7.frozen 2; simp only [List.getElem?_toArray, List.getElem?_cons_zero, List.getElem?_cons_succ] at y0 y1 y2; have HB7 := Lib.hid hb7; clear hb7 h7)
            obtain ⟨p2, p3⟩ := HPT.out w7 (.slice none 0 0) (.slice none 0 0) (.slice none 0 0) HB7.out
            refine bodyPost_ret (results_aggr2 (t := 2) (g := w.heap.size) rfl rfl Tryz.isAgg26 Tryz.sizeOf26 rfl p2) rfl ?_
            exact SysPost.none_ HN.out p3
          | true =>
            have hrp := right_parts hrt
            have hq2 : n2 ≤ 16 := by rw [hl2, HU.out]; exact hrp.2.1
            have hq3 : n3 ≤ 24 := by have := hrp.2.2.1; rw [← HUS.out, List.length_map] at this; omega
            have HENT := Lib.hid (fun (W' : World) (hW : Below wr.heap.size wr W') => refLaid_any (HOB.out.below hW) hW.size HSM.out hq2 hq3)
            rw [hrt] at hr
            have HRT := Lib.hid hrt
            unfold ovArr at hr HENT
            simp only at hr HENT
            clear hcap hpf hlow hown hobs hsys hl2 hl3 hsml hbw hres hrt hkk htx hrp
            by_cases hlq : laidS (partS L) = L
            · have HSOM := Lib.hid (sys_some HNE.out HRT.out hlq)
              have HLQ := Lib.hid hlq
              clear hlq
              go_wp2_with (first
                | (go_at_call 16; refine hr.mono ?_; clear hr; rintro e7 w7 ⟨rfl, hb7⟩; obtain ⟨v0, v1, v2⟩ := HBXC.out _ hb7; have hen := HENT.out _ hb7; have HB7 := Lib.hid hb7; clear hb7)
                | (go_at_call 36; refine hen.mono ?_; clear hen; rintro e8 w8 ⟨A8, n8, c8, es8, rfl, hm8, hl8, hb8⟩; have hb8' := HB7.out.trans (hb8.mono HB7.out.size); have heq := refSame_any hl8 (HHO.out.below (hb8'.mono HLB.out)); rw [hm8, HSY.out, ← HLL.out, (entsEq_iff _ _).2 HLQ.out] at heq; have HB8 := Lib.hid hb8'; clear hm8 hl8 hb8 hb8')
                | (go_at_call 14; refine heq.mono ?_; clear heq; rintro e9 w9 ⟨rfl, q9, hq9⟩; have hb9' : Below wr.heap.size wr w9 := (by rw [hq9]; exact bel_drewN HB8.out q9); clear hq9; obtain ⟨z0, z1, z2⟩ := HBXC.out _ hb9'; have h7 := (HRS2.out _ hb9').1; have y0 := h7.cell 0; have y1 := h7.cell 1; have y2 := h7.cell 2; have f0 := h7.frozen 0; have f1 := h7.frozen 1; have f2 := h7.frozen 2; simp only [List.getElem?_toArray, List.getElem?_cons_zero, List.getElem?_cons_succ] at y0 y1 y2; have HB9 := Lib.hid hb9'; clear hb9' h7))
              obtain ⟨p2, p3⟩ := HPT.out w9 (.slice A' k c') (.slice A2 n2 c2) (.slice A3 n3 c3) HB9.out
              refine bodyPost_ret (results_aggr2 (t := 2) (g := w.heap.size) rfl rfl Tryz.isAgg26 Tryz.sizeOf26 rfl p2) rfl ?_
              refine SysPost.some_ (o := ⟨A', k, c', es', A2, n2, c2, users, A3, n3, c3, us⟩) (by rw [HSY.out]; exact HSOM.out) ?_ p3
              have hf := (HSI.out.below HB9.out).put3 (R := w.heap.size) (by omega) (by omega) (.slice A' k c') (.slice A2 n2 c2) (.slice A3 n3 c3)
              have hz9 := HB9.out.size
              have hzs := HSI.out.step.size
              refine hf.obs (ShareE.ents (D := w.heap.size) (base := w.heap.size + 2) (HOE.out.keepB (fun i hi => ?_)) ?_)
              · rw [(put3_step w9 w.heap.size _ _ _).block i (by omega) (by omega), HB9.out.block i (by omega)]
                exact HLW.out i (by omega) (by omega)
              · have := (put3_step w9 w.heap.size (.slice A' k c') (.slice A2 n2 c2) (.slice A3 n3 c3)).size
                omega
            · have HN := Lib.hid (sys_none (L := L) (.inr hlq))
              have HLQ := Lib.hid (show entsEq (laidS (partS L)) L = false from by
                cases h9 : entsEq (laidS (partS L)) L with
                | false => rfl
                | true => exact absurd ((entsEq_iff _ _).1 h9) hlq)
              clear hlq
              go_wp2_with (first
                | (go_at_call 16; refine hr.mono ?_; clear hr; rintro e7 w7 ⟨rfl, hb7⟩; obtain ⟨v0, v1, v2⟩ := HBXC.out _ hb7; have hen := HENT.out _ hb7; have HB7 := Lib.hid hb7; clear hb7)
                | (go_at_call 36; refine hen.mono ?_; clear hen; rintro e8 w8 ⟨A8, n8, c8, es8, rfl, hm8, hl8, hb8⟩; have hb8' := HB7.out.trans (hb8.mono HB7.out.size); have heq := refSame_any hl8 (HHO.out.below (hb8'.mono HLB.out)); rw [hm8, HSY.out, ← HLL.out, HLQ.out] at heq; have HB8 := Lib.hid hb8'; clear hm8 hl8 hb8 hb8')
                | (go_at_call 14; refine heq.mono ?_; clear heq; rintro e9 w9 ⟨rfl, q9, hq9⟩; have hb9' : Below wr.heap.size wr w9 := (by rw [hq9]; exact bel_drewN HB8.out q9); clear hq9; have h7 := (HRS2.out _ hb9').1; have y0 := h7.cell 0; have y1 := h7.cell 1; have y2 := h7.cell 2; have f0 := h7.frozen 0; have f1 := h7.frozen 1; have f2 := h7.frozen 2; simp only [List.getElem?_toArray, List.getElem?_cons_zero, List.getElem?_cons_succ] at y0 y1 y2; have HB9 := Lib.hid hb9'; clear hb9' h7))
              obtain ⟨p2, p3⟩ := HPT.out w9 (.slice none 0 0) (.slice none 0 0) (.slice none 0 0) HB9.out
              refine bodyPost_ret (results_aggr2 (t := 2) (g := w.heap.size) rfl rfl Tryz.isAgg26 Tryz.sizeOf26 rfl p2) rfl ?_
              exact SysPost.none_ HN.out p3
        · have hre : (rest == []) = false := by rw [beq_eq_false_iff_ne]; exact hr0
          have hcut := refCut_any rest (by omega) wr
          unfold cutV at hcut
          have htx2 := htx.out
          rw [text_cut] at htx2
          have hfa := front_after 10 rest
          have hal := after_less 10 hr0
          have hcl := hcap.out.line (l := frontT 10 rest) (by omega)
          obtain ⟨line, hline⟩ : ∃ line, line = frontT 10 rest := ⟨_, rfl⟩
          obtain ⟨rest', hrest'⟩ : ∃ rest', rest' = afterT 10 rest := ⟨_, rfl⟩
          rw [← hline] at hcut htx2 hfa hcl
          rw [← hrest'] at hcut htx2 hfa hal
          obtain ⟨fl, hfl⟩ : ∃ fl, fl = line.length := ⟨_, rfl⟩
          rw [← hfl] at hfa hcl
          have HKL := Lib.hid (show kk + fl + rest'.length ≤ 1048576 by omega)
          have HLS := Lib.hid (show (ByteArray.mk rest'.toArray).size < (ByteArray.mk rest.toArray).size from hal)
          clear hfl hrest' hline hfa hal hkk hcap htx
          obtain ⟨st', hst'⟩ : ∃ st', st' = sysLine st line := ⟨_, rfl⟩
          rw [← hst'] at htx2 hcl
          have HTX := Lib.hid htx2
          have HCL := Lib.hid hcl
          have HST := Lib.hid hst'
          clear htx2 hcl hst'
          have ht : (ByteArray.mk (wordT line).toArray).toList = wordT line := Go.ByteArray.toList_eq _
          by_cases hw1 : wordT line = wUser
          · have HL := Lib.hid (HST.out.trans (line_is_user (s := st) hw1))
            rw [hw1] at hcut
            unfold wUser at hcut
            generalize behindT line = r at *
            clear hw1 ht
            go_wp2_with (first
              | (go_at_call 68; refine hcut.mono ?_; clear hcut; rintro e6 w6 ⟨rfl, q, hw6⟩; have h6 := HSI.out.below (show Below wr.heap.size wr w6 by rw [hw6]; exact bel_drewN (Below.refl _ _) q); have hz6 : wr.heap.size ≤ w6.heap.size := (by rw [hw6]; exact Nat.le_refl _); clear hw6; have u2 := h6.box.cell 2; have u1 := h6.box.cell 1; simp only [List.getElem?_toArray, List.getElem?_cons_zero, List.getElem?_cons_succ] at u1 u2; obtain ⟨A8, c8, w8, hrun, cc, ff, hz8, hS8, hst8⟩ := h6.user (Nat.le_trans hHW hz6) r (Nat.le_trans hn2 (by decide)); have HS8 := Lib.hid hS8; clear hS8 hst8 h6 hz8)
              | (at_builtin; refine wpList_append_run rfl _ _ _ rfl rfl rfl hrun ?_; clear hrun))
            exact ⟨⟨rest', st', kk + fl, rfl, HTX.out, HCL.out, HKL.out, ⟨F, A8, n2 + 1, c8, users ++ [r], A3, n3, c3, us, HS8.out, by rw [HL.out, HU.out], by rw [HL.out, HUS.out]⟩⟩, by simp only [strN]; exact HLS.out⟩
          by_cases hw2 : wordT line = wUnit
          · have HL := Lib.hid (HST.out.trans (line_is_unit (s := st) hw1 hw2))
            rw [hw2] at hcut
            unfold wUnit at hcut
            generalize behindT line = r at *
            clear hw1 hw2 ht
            go_wp2_with (first
              | (go_at_call 68; refine hcut.mono ?_; clear hcut; rintro e6 w6 ⟨rfl, q, hw6⟩; have h6 := HSI.out.below (show Below wr.heap.size wr w6 by rw [hw6]; exact bel_drewN (Below.refl _ _) q); have hz6 : wr.heap.size ≤ w6.heap.size := (by rw [hw6]; exact Nat.le_refl _); clear hw6; have u2 := h6.box.cell 2; have u1 := h6.box.cell 1; simp only [List.getElem?_toArray, List.getElem?_cons_zero, List.getElem?_cons_succ] at u1 u2; obtain ⟨A8, c8, w8, hrun, cc, ff, hz8, hS8, hst8⟩ := h6.unit (Nat.le_trans hHW hz6) r (Nat.le_trans hn3 (by decide)); have HS8 := Lib.hid hS8; simp only [svArr] at hrun; clear hS8 hst8 h6 hz8)
              | (at_builtin; refine wpList_append_run rfl _ _ _ rfl rfl rfl hrun ?_; clear hrun))
            exact ⟨⟨rest', st', kk + fl, rfl, HTX.out, HCL.out, HKL.out, ⟨_, A2, n2, c2, users, A8, n3 + 1, c8, us ++ [⟨r, [], [], none, 0, 0, [], none, 0, 0⟩], HS8.out, by rw [HL.out, HU.out], by rw [HL.out, List.map_append, HUS.out]; rfl⟩⟩, by simp only [strN]; exact HLS.out⟩
          rcases List.eq_nil_or_concat us with hnil | ⟨mm, u, hcc⟩
          · subst hnil
            have HL := Lib.hid (HST.out.trans (line_is_none (s := st) hw1 hw2 (by rw [← HUS.out]; rfl)))
            obtain rfl : n3 = 0 := by have := HSI.out.units.own.len; simpa using this.symm
            have e1 : (wordT line == [117, 115, 101, 114]) = false := by rw [beq_eq_false_iff_ne]; exact hw1
            have e2 : (wordT line == [117, 110, 105, 116]) = false := by rw [beq_eq_false_iff_ne]; exact hw2
            by_cases hw3 : wordT line = wRun
            · rw [hw3] at hcut
              unfold wRun at hcut
              generalize behindT line = r at *
              clear hw1 hw2 hw3 ht e1 e2
              go_wp2_with (go_at_call 68; refine hcut.mono ?_; clear hcut; rintro e6 w6 ⟨rfl, q, hw6⟩; have h6 := HSI.out.below (show Below wr.heap.size wr w6 by rw [hw6]; exact bel_drewN (Below.refl _ _) q); have hz6 : wr.heap.size ≤ w6.heap.size := (by rw [hw6]; exact Nat.le_refl _); clear hw6; have u2 := h6.box.cell 2; have u1 := h6.box.cell 1; simp only [List.getElem?_toArray, List.getElem?_cons_zero, List.getElem?_cons_succ] at u1 u2; have HS8 := Lib.hid h6; clear h6)
              exact ⟨⟨rest', st', kk + fl, rfl, HTX.out, HCL.out, HKL.out, ⟨F, A2, n2, c2, users, A3, 0, c3, [], HS8.out, by rw [HL.out, HU.out], by rw [HL.out, HUS.out]⟩⟩, by simp only [strN]; exact HLS.out⟩
            have nwRun := hw3
            clear hw3
            by_cases hw3 : wordT line = wReq
            · rw [hw3] at hcut
              unfold wReq at hcut
              generalize behindT line = r at *
              clear hw1 hw2 hw3 ht e1 e2
              go_wp2_with (go_at_call 68; refine hcut.mono ?_; clear hcut; rintro e6 w6 ⟨rfl, q, hw6⟩; have h6 := HSI.out.below (show Below wr.heap.size wr w6 by rw [hw6]; exact bel_drewN (Below.refl _ _) q); have hz6 : wr.heap.size ≤ w6.heap.size := (by rw [hw6]; exact Nat.le_refl _); clear hw6; have u2 := h6.box.cell 2; have u1 := h6.box.cell 1; simp only [List.getElem?_toArray, List.getElem?_cons_zero, List.getElem?_cons_succ] at u1 u2; have HS8 := Lib.hid h6; clear h6)
              exact ⟨⟨rest', st', kk + fl, rfl, HTX.out, HCL.out, HKL.out, ⟨F, A2, n2, c2, users, A3, 0, c3, [], HS8.out, by rw [HL.out, HU.out], by rw [HL.out, HUS.out]⟩⟩, by simp only [strN]; exact HLS.out⟩
            have nwReq := hw3
            clear hw3
            by_cases hw3 : wordT line = wAft
            · rw [hw3] at hcut
              unfold wAft at hcut
              generalize behindT line = r at *
              clear hw1 hw2 hw3 ht e1 e2
              go_wp2_with (go_at_call 68; refine hcut.mono ?_; clear hcut; rintro e6 w6 ⟨rfl, q, hw6⟩; have h6 := HSI.out.below (show Below wr.heap.size wr w6 by rw [hw6]; exact bel_drewN (Below.refl _ _) q); have hz6 : wr.heap.size ≤ w6.heap.size := (by rw [hw6]; exact Nat.le_refl _); clear hw6; have u2 := h6.box.cell 2; have u1 := h6.box.cell 1; simp only [List.getElem?_toArray, List.getElem?_cons_zero, List.getElem?_cons_succ] at u1 u2; have HS8 := Lib.hid h6; clear h6)
              exact ⟨⟨rest', st', kk + fl, rfl, HTX.out, HCL.out, HKL.out, ⟨F, A2, n2, c2, users, A3, 0, c3, [], HS8.out, by rw [HL.out, HU.out], by rw [HL.out, HUS.out]⟩⟩, by simp only [strN]; exact HLS.out⟩
            have nwAft := hw3
            clear hw3
            have e3 : (wordT line == [114, 117, 110]) = false := by rw [beq_eq_false_iff_ne]; exact nwRun
            have e4 : (wordT line == [114, 101, 113, 117, 105, 114, 101, 115]) = false := by rw [beq_eq_false_iff_ne]; exact nwReq
            have e5 : (wordT line == [97, 102, 116, 101, 114]) = false := by rw [beq_eq_false_iff_ne]; exact nwAft
            generalize behindT line = r at *
            generalize wordT line = wd at *
            clear hw1 hw2 nwRun nwReq nwAft
            go_wp2_with (go_at_call 68; refine hcut.mono ?_; clear hcut; rintro e6 w6 ⟨rfl, q, hw6⟩; have h6 := HSI.out.below (show Below wr.heap.size wr w6 by rw [hw6]; exact bel_drewN (Below.refl _ _) q); have hz6 : wr.heap.size ≤ w6.heap.size := (by rw [hw6]; exact Nat.le_refl _); clear hw6; have u2 := h6.box.cell 2; have u1 := h6.box.cell 1; simp only [List.getElem?_toArray, List.getElem?_cons_zero, List.getElem?_cons_succ] at u1 u2; have HS8 := Lib.hid h6; clear h6)
            exact ⟨⟨rest', st', kk + fl, rfl, HTX.out, HCL.out, HKL.out, ⟨F, A2, n2, c2, users, A3, 0, c3, [], HS8.out, by rw [HL.out, HU.out], by rw [HL.out, HUS.out]⟩⟩, by simp only [strN]; exact HLS.out⟩
          · rw [List.concat_eq_append] at hcc
            subst hcc
            have HL := Lib.hid (HST.out.trans (line_is_more (s := st) (M := mm.map SV.srv) (u := u.srv) hw1 hw2 (by rw [← HUS.out, List.map_append]; rfl)))
            obtain ⟨hnn, gg, hAA, -, -, -, -⟩ := HSI.out.units.last
            subst hnn hAA
            have hun : u.n ≤ 1000000000 ∧ u.n2 ≤ 1000000000 := by
              have hm9 : u.srv ∈ st.units := by rw [← HUS.out]; simp
              have h9 := HCP.out.lists _ hm9
              have q1 := (HSI.out.units.own.req u (by simp)).own.1
              have q2 := (HSI.out.units.own.aft u (by simp)).own.1
              have r1 : u.srv.req.length ≤ kk := h9.1
              have r2 : u.srv.aft.length ≤ kk := h9.2
              simp only [List.length_map, Nat.mul_one, SV.srv] at q1 q2 r1 r2
              omega
            have hge : decide ((mm.length : Int) ≥ 0) = true := decide_eq_true (by omega)
            have hpu : ((mm.length + 1 : Nat) : Int) - 1 = (mm.length : Int) := by omega
            have hmc : mm.length + 1 ≤ c3 := (HSI.out.units.own.row.slc').le
            by_cases hw3 : wordT line = wRun
            · have HL2 := Lib.hid (show st' = ⟨st.files, st.users, mm.map SV.srv ++ [⟨u.name, behindT line, u.req, u.aft⟩]⟩ by rw [HL.out, hw3]; unfold moreU; rw [if_pos rfl]; rfl)
              rw [hw3] at hcut
              unfold wRun at hcut
              generalize behindT line = r at *
              clear hw1 hw2 hw3 ht
              go_wp2_with (go_at_call 68; refine hcut.mono ?_; clear hcut; rintro e6 w6 ⟨rfl, q, hw6⟩; have h6 := HSI.out.below (show Below wr.heap.size wr w6 by rw [hw6]; exact bel_drewN (Below.refl _ _) q); have hz6 : wr.heap.size ≤ w6.heap.size := (by rw [hw6]; exact Nat.le_refl _); clear hw6; have u2 := h6.box.cell 2; have u1 := h6.box.cell 1; simp only [List.getElem?_toArray, List.getElem?_cons_zero, List.getElem?_cons_succ] at u1 u2; obtain ⟨_, gx, hgx, k1, k2, k3, k4⟩ := h6.units.last; injection hgx with hgx; injection hgx with hgx; subst hgx; have g1 : w6.cell? ⟨gg, mm.length * 4 + 1, none⟩ = some (.string ⟨u.start.toArray⟩) := k3 1 (by decide); have gf := k4 (mm.length * 4 + 1); have HS8 := Lib.hid (h6.more (Nat.le_trans hHW hz6) (h6.units.start r) ((Step.refl w6 F).setCell (.inl k1) _) (fun k hk => .inl hk)); clear h6 k1 k2 k3 k4)
              exact ⟨⟨rest', st', kk + fl, rfl, HTX.out, HCL.out, HKL.out, ⟨_, A2, n2, c2, users, some ⟨gg, 0, none⟩, mm.length + 1, c3, mm ++ [⟨u.name, r, u.req, u.A, u.n, u.c, u.aft, u.A2, u.n2, u.c2⟩], HS8.out, by rw [HL2.out, HU.out], by rw [HL2.out, List.map_append]; rfl⟩⟩, by simp only [strN]; exact HLS.out⟩
            have nwRun := hw3
            clear hw3
            by_cases hw3 : wordT line = wReq
            · have HL2 := Lib.hid (show st' = ⟨st.files, st.users, mm.map SV.srv ++ [⟨u.name, u.start, u.req ++ [behindT line], u.aft⟩]⟩ by rw [HL.out, hw3]; unfold moreU; rw [if_neg (by decide), if_pos rfl]; rfl)
              rw [hw3] at hcut
              unfold wReq at hcut
              generalize behindT line = r at *
              clear hw1 hw2 hw3 ht
              go_upto_region 25 with (go_at_call 68; refine hcut.mono ?_; clear hcut; rintro e6 w6 ⟨rfl, q, hw6⟩; have h6 := HSI.out.below (show Below wr.heap.size wr w6 by rw [hw6]; exact bel_drewN (Below.refl _ _) q); have hz6 : wr.heap.size ≤ w6.heap.size := (by rw [hw6]; exact Nat.le_refl _); clear hw6; have u2 := h6.box.cell 2; have u1 := h6.box.cell 1; simp only [List.getElem?_toArray, List.getElem?_cons_zero, List.getElem?_cons_succ] at u1 u2; have HS6 := Lib.hid h6; clear h6)
              have h7 := HS6.out.below (Below.refl _ w6).drew
              obtain ⟨_, gx, hgx, k1, k2, k3, k4⟩ := h7.units.last
              injection hgx with hgx
              injection hgx with hgx
              subst hgx
              obtain ⟨A9, c9, w9, r1, r2, r3, hFg, r4⟩ := h7.units.req r hun.1
              obtain ⟨cur, fr, hcu⟩ := row_typed h7.units.own.row gg rfl
              have hk9 := r4 gg cur fr _ (by decide) hcu
              have c7 : w6.drew.cell? ⟨gg, mm.length * 4 + 2, none⟩ = some (.slice u.A u.n u.c) := k3 2 (by decide)
              have c9' : w9.cell? ⟨gg, mm.length * 4 + 2, none⟩ = some (.slice u.A u.n u.c) := by rw [World.cell?_of_block (w := w6.drew) hk9]; exact c7
              have f9 : w9.frozen? ⟨gg, mm.length * 4 + 2, none⟩ = false := by rw [World.frozen?_of_block (w := w6.drew) hk9]; exact k4 _
              have HK0 := Lib.hid (And.intro (h7.box.cell 2) c7)
              have HK8 := Lib.hid (And.intro ((h7.box.step r3 h7.nfoot).cell 2) c9')
              have HKX := Lib.hid (And.intro ((h7.box.alloc (.cells #[.string ⟨r.toArray⟩] 9)).cell 2) ((World.cell?_of_block (w := w6.drew) (a := ⟨gg, mm.length * 4 + 2, none⟩) (Below.heap_alloc w6.drew (.cells #[.string ⟨r.toArray⟩] 9) gg k2)).trans c7))
              have HS8 := Lib.hid (h7.more (Nat.le_trans hHW hz6) r2 (r3.setCell (.inl hFg) _) (fun k hk => by rcases hk with hk | hk; exact .inl hk; exact .inr ⟨hk.1, by simpa using hk.2⟩))
              have HR1 : Hid ((Builtin.append_ #[23, 23] 23 #[.slice u.A u.n u.c, .slice (some ⟨w6.heap.size, 0, none⟩) 1 1]).run Tryz.prog (w6.alloc (.cells #[.string ⟨r.toArray⟩] 9)).drew = .ok (.slice A9 (u.n + 1) c9) w9) := r1
              simp only [List.getElem?_toArray, List.getElem?_cons_zero, List.getElem?_cons_succ] at HK0 HK8 HKX
              clear h7 k1 k2 k3 k4 r1 r2 r3 hFg r4 hcu hk9 c7 u1 u2
              refine wp_region_K (fun W' => W'.cell? ⟨w.heap.size + 1, 2, none⟩ = some (.slice (some ⟨gg, 0, none⟩) (mm.length + 1) c3) ∧ W'.cell? ⟨gg, mm.length * 4 + 2, none⟩ = some (.slice u.A u.n u.c)) 14 (by kernel_rfl) HK0.out (fun hS9 => ?_)
              try simp only [Act.put, List.setIfInBounds_toArray, List.set_cons_zero, List.set_cons_succ]
              refine wpAnyK_take (i := 0) (v := ?_) [1, 12, 13, 14] rfl (by kernel_rfl) (fun _ _ _ h => h) (Or.inl ⟨by rfl, ?_⟩) (by assumption) ?_
              rotate_left
              focus (intro w9 hSw; (try dsimp only at hSw); go_simp; (try with_reducible rfl))
              try simp only [Act.put, List.setIfInBounds_toArray, List.set_cons_zero, List.set_cons_succ]
              refine wpAnyK_take (i := 1) (v := ?_) [12, 13, 14] rfl (by kernel_rfl) (fun _ _ _ h => h) (Or.inl ⟨by rfl, ?_⟩) (by assumption) ?_
              rotate_left
              focus (intro w9 hSw; (try dsimp only at hSw); go_simp; (try with_reducible rfl))
              try simp only [Act.put, List.setIfInBounds_toArray, List.set_cons_zero, List.set_cons_succ]
              refine wpAnyK_take (i := 2) (v := ?_) [12, 13, 14] rfl (by kernel_rfl) (fun _ _ _ h => h) (Or.inl ⟨by rfl, ?_⟩) (by assumption) ?_
              rotate_left
              focus (intro w9 hSw; (try dsimp only at hSw); go_simp; (try with_reducible rfl))
              try simp only [Act.put, List.setIfInBounds_toArray, List.set_cons_zero, List.set_cons_succ]
              refine wpAnyK_take (i := 3) (v := ?_) [4, 6, 7, 8, 11, 14] rfl (by kernel_rfl) (fun _ _ _ h => h) (Or.inl ⟨by rfl, ?_⟩) (by assumption) ?_
              rotate_left
              focus (intro w9 hSw; (try dsimp only at hSw); go_simp; (try with_reducible rfl))
              try simp only [Act.put, List.setIfInBounds_toArray, List.set_cons_zero, List.set_cons_succ]
              refine wpAnyK_take (i := 4) (v := ?_) [6, 7, 8, 11, 14] rfl (by kernel_rfl) (fun _ _ _ h => h) (Or.inl ⟨by rfl, ?_⟩) (by assumption) ?_
              rotate_left
              focus (intro w9 hSw; (try dsimp only at hSw); go_simp; (try with_reducible rfl))
              try simp only [Act.put, List.setIfInBounds_toArray, List.set_cons_zero, List.set_cons_succ]
              refine wpAnyK_take (i := 5) (v := ?_) [6, 7, 8, 11, 14] rfl (by kernel_rfl) (fun _ _ _ h => h) (Or.inl ⟨by rfl, ?_⟩) (by assumption) ?_
              rotate_left
              focus (intro w9 hSw; (try dsimp only at hSw); go_simp; (try with_reducible rfl))
              try simp only [Act.put, List.setIfInBounds_toArray, List.set_cons_zero, List.set_cons_succ]
              refine wpAnyK_take (i := 6) (v := ?_) [7, 8, 11, 14] rfl (by kernel_rfl) (fun _ _ _ h => h) (Or.inl ⟨by rfl, ?_⟩) (by assumption) ?_
              rotate_left
              focus (intro w9 hSw; (try dsimp only at hSw); go_simp; (try rw [if_pos (show (mm.length : Int) < (mm.length : Int) + 1 by omega)]); (try with_reducible rfl))
              try simp only [Act.put, List.setIfInBounds_toArray, List.set_cons_zero, List.set_cons_succ]
              refine wpAnyK_take (i := 7) (v := ?_) [8, 11, 14] rfl (by kernel_rfl) (fun _ _ _ h => h) (Or.inl ⟨by rfl, ?_⟩) (by assumption) ?_
              rotate_left
              focus (intro w9 hSw; (try dsimp only at hSw); go_simp; (try with_reducible rfl))
              try simp only [Act.put, List.setIfInBounds_toArray, List.set_cons_zero, List.set_cons_succ]
              refine wpAnyK_take (i := 8) (v := ?_) [11, 14] rfl (by kernel_rfl) (fun _ _ _ h => h) (Or.inl ⟨by rfl, ?_⟩) (by assumption) ?_
              rotate_left
              focus (intro w9 hSw; (try dsimp only at hSw); go_simp; (try with_reducible rfl))
              try simp only [Act.put, List.setIfInBounds_toArray, List.set_cons_zero, List.set_cons_succ]
              refine wpAnyK_take (i := 9) (v := ?_) [10, 11, 14] rfl (by kernel_rfl) (fun _ _ _ h => h) (Or.inl ⟨by rfl, ?_⟩) (by assumption) ?_
              rotate_left
              focus (intro w9 hSw; (try dsimp only at hSw); go_simp; (try with_reducible rfl))
              try simp only [Act.put, List.setIfInBounds_toArray, List.set_cons_zero, List.set_cons_succ]
              refine wpAnyK_one (i := 10) (by kernel_rfl) rfl (fun K9 hK9 => ?_)
              go_simp
              refine hK9.out _ _ (fun _ => HKX.out) (fun hS9 => ?_)
              replace hS9 := hS9 (by decide)
              try dsimp only at hS9
              try simp only [Act.put, List.setIfInBounds_toArray, List.set_cons_zero, List.set_cons_succ]
              refine wpAnyK_one (i := 11) (by kernel_rfl) rfl (fun K9 hK9 => ?_)
              refine step_append_at (by rfl) _ _ _ (by rfl) HR1.out (by with_reducible rfl) (by rfl) (by rfl) (by rfl) ?_
              refine hK9.out _ _ (fun _ => HK8.out) (fun hS9 => ?_)
              replace hS9 := hS9 (by decide)
              try dsimp only at hS9
              try simp only [Act.put, List.setIfInBounds_toArray, List.set_cons_zero, List.set_cons_succ]
              refine wpAnyK_one (i := 12) (by kernel_rfl) rfl (fun K9 hK9 => ?_)
              (go_simp; (try rw [if_pos (show (mm.length : Int) < (mm.length : Int) + 1 by omega)]))
              refine hK9.out _ _ (fun _ => hS9) (fun hS9 => ?_)
              replace hS9 := hS9 (by decide)
              try dsimp only at hS9
              try simp only [Act.put, List.setIfInBounds_toArray, List.set_cons_zero, List.set_cons_succ]
              refine wpAnyK_one (i := 13) (by kernel_rfl) rfl (fun K9 hK9 => ?_)
              go_simp
              refine hK9.out _ _ (fun _ => hS9) (fun hS9 => ?_)
              replace hS9 := hS9 (by decide)
              try dsimp only at hS9
              try simp only [Act.put, List.setIfInBounds_toArray, List.set_cons_zero, List.set_cons_succ]
              refine wpAnyK_one (i := 14) (by kernel_rfl) rfl (fun K9 hK9 => ?_)
              go_simp
              refine hK9.out _ _ (fun h9 => absurd rfl h9) (fun hS9 => ?_)
              try simp only [Act.put, List.setIfInBounds_toArray, List.set_cons_zero, List.set_cons_succ]
              refine wpAnyK_done (by kernel_rfl) ?_ _
              go_wp2_with (fail)
              exact ⟨⟨rest', st', kk + fl, rfl, HTX.out, HCL.out, HKL.out, ⟨_, A2, n2, c2, users, some ⟨gg, 0, none⟩, mm.length + 1, c3, mm ++ [⟨u.name, u.start, u.req ++ [r], A9, u.n + 1, c9, u.aft, u.A2, u.n2, u.c2⟩], HS8.out, by rw [HL2.out, HU.out], by rw [HL2.out, List.map_append]; rfl⟩⟩, by simp only [strN]; exact HLS.out⟩
            have nwReq := hw3
            clear hw3
            by_cases hw3 : wordT line = wAft
            · have HL2 := Lib.hid (show st' = ⟨st.files, st.users, mm.map SV.srv ++ [⟨u.name, u.start, u.req, u.aft ++ [behindT line]⟩]⟩ by rw [HL.out, hw3]; unfold moreU; rw [if_neg (by decide), if_neg (by decide), if_pos rfl]; rfl)
              rw [hw3] at hcut
              unfold wAft at hcut
              generalize behindT line = r at *
              clear hw1 hw2 hw3 ht
              go_upto_region 27 with (go_at_call 68; refine hcut.mono ?_; clear hcut; rintro e6 w6 ⟨rfl, q, hw6⟩; have h6 := HSI.out.below (show Below wr.heap.size wr w6 by rw [hw6]; exact bel_drewN (Below.refl _ _) q); have hz6 : wr.heap.size ≤ w6.heap.size := (by rw [hw6]; exact Nat.le_refl _); clear hw6; have u2 := h6.box.cell 2; have u1 := h6.box.cell 1; simp only [List.getElem?_toArray, List.getElem?_cons_zero, List.getElem?_cons_succ] at u1 u2; have HS6 := Lib.hid h6; clear h6)
              have h7 := HS6.out.below (Below.refl _ w6).drew
              obtain ⟨_, gx, hgx, k1, k2, k3, k4⟩ := h7.units.last
              injection hgx with hgx
              injection hgx with hgx
              subst hgx
              obtain ⟨A9, c9, w9, r1, r2, r3, hFg, r4⟩ := h7.units.aft r hun.2
              obtain ⟨cur, fr, hcu⟩ := row_typed h7.units.own.row gg rfl
              have hk9 := r4 gg cur fr _ (by decide) hcu
              have c7 : w6.drew.cell? ⟨gg, mm.length * 4 + 3, none⟩ = some (.slice u.A2 u.n2 u.c2) := k3 3 (by decide)
              have c9' : w9.cell? ⟨gg, mm.length * 4 + 3, none⟩ = some (.slice u.A2 u.n2 u.c2) := by rw [World.cell?_of_block (w := w6.drew) hk9]; exact c7
              have f9 : w9.frozen? ⟨gg, mm.length * 4 + 3, none⟩ = false := by rw [World.frozen?_of_block (w := w6.drew) hk9]; exact k4 _
              have HK0 := Lib.hid (And.intro (h7.box.cell 2) c7)
              have HK8 := Lib.hid (And.intro ((h7.box.step r3 h7.nfoot).cell 2) c9')
              have HKX := Lib.hid (And.intro ((h7.box.alloc (.cells #[.string ⟨r.toArray⟩] 9)).cell 2) ((World.cell?_of_block (w := w6.drew) (a := ⟨gg, mm.length * 4 + 3, none⟩) (Below.heap_alloc w6.drew (.cells #[.string ⟨r.toArray⟩] 9) gg k2)).trans c7))
              have HS8 := Lib.hid (h7.more (Nat.le_trans hHW hz6) r2 (r3.setCell (.inl hFg) _) (fun k hk => by rcases hk with hk | hk; exact .inl hk; exact .inr ⟨hk.1, by simpa using hk.2⟩))
              have HR1 : Hid ((Builtin.append_ #[23, 23] 23 #[.slice u.A2 u.n2 u.c2, .slice (some ⟨w6.heap.size, 0, none⟩) 1 1]).run Tryz.prog (w6.alloc (.cells #[.string ⟨r.toArray⟩] 9)).drew = .ok (.slice A9 (u.n2 + 1) c9) w9) := r1
              simp only [List.getElem?_toArray, List.getElem?_cons_zero, List.getElem?_cons_succ] at HK0 HK8 HKX
              clear h7 k1 k2 k3 k4 r1 r2 r3 hFg r4 hcu hk9 c7 u1 u2
              refine wp_region_K (fun W' => W'.cell? ⟨w.heap.size + 1, 2, none⟩ = some (.slice (some ⟨gg, 0, none⟩) (mm.length + 1) c3) ∧ W'.cell? ⟨gg, mm.length * 4 + 3, none⟩ = some (.slice u.A2 u.n2 u.c2)) 14 (by kernel_rfl) HK0.out (fun hS9 => ?_)
              try simp only [Act.put, List.setIfInBounds_toArray, List.set_cons_zero, List.set_cons_succ]
              refine wpAnyK_take (i := 0) (v := ?_) [1, 12, 13, 14] rfl (by kernel_rfl) (fun _ _ _ h => h) (Or.inl ⟨by rfl, ?_⟩) (by assumption) ?_
              rotate_left
              focus (intro w9 hSw; (try dsimp only at hSw); go_simp; (try with_reducible rfl))
              try simp only [Act.put, List.setIfInBounds_toArray, List.set_cons_zero, List.set_cons_succ]
              refine wpAnyK_take (i := 1) (v := ?_) [12, 13, 14] rfl (by kernel_rfl) (fun _ _ _ h => h) (Or.inl ⟨by rfl, ?_⟩) (by assumption) ?_
              rotate_left
              focus (intro w9 hSw; (try dsimp only at hSw); go_simp; (try with_reducible rfl))
              try simp only [Act.put, List.setIfInBounds_toArray, List.set_cons_zero, List.set_cons_succ]
              refine wpAnyK_take (i := 2) (v := ?_) [12, 13, 14] rfl (by kernel_rfl) (fun _ _ _ h => h) (Or.inl ⟨by rfl, ?_⟩) (by assumption) ?_
              rotate_left
              focus (intro w9 hSw; (try dsimp only at hSw); go_simp; (try with_reducible rfl))
              try simp only [Act.put, List.setIfInBounds_toArray, List.set_cons_zero, List.set_cons_succ]
              refine wpAnyK_take (i := 3) (v := ?_) [4, 6, 7, 8, 11, 14] rfl (by kernel_rfl) (fun _ _ _ h => h) (Or.inl ⟨by rfl, ?_⟩) (by assumption) ?_
              rotate_left
              focus (intro w9 hSw; (try dsimp only at hSw); go_simp; (try with_reducible rfl))
              try simp only [Act.put, List.setIfInBounds_toArray, List.set_cons_zero, List.set_cons_succ]
              refine wpAnyK_take (i := 4) (v := ?_) [6, 7, 8, 11, 14] rfl (by kernel_rfl) (fun _ _ _ h => h) (Or.inl ⟨by rfl, ?_⟩) (by assumption) ?_
              rotate_left
              focus (intro w9 hSw; (try dsimp only at hSw); go_simp; (try with_reducible rfl))
              try simp only [Act.put, List.setIfInBounds_toArray, List.set_cons_zero, List.set_cons_succ]
              refine wpAnyK_take (i := 5) (v := ?_) [6, 7, 8, 11, 14] rfl (by kernel_rfl) (fun _ _ _ h => h) (Or.inl ⟨by rfl, ?_⟩) (by assumption) ?_
              rotate_left
              focus (intro w9 hSw; (try dsimp only at hSw); go_simp; (try with_reducible rfl))
              try simp only [Act.put, List.setIfInBounds_toArray, List.set_cons_zero, List.set_cons_succ]
              refine wpAnyK_take (i := 6) (v := ?_) [7, 8, 11, 14] rfl (by kernel_rfl) (fun _ _ _ h => h) (Or.inl ⟨by rfl, ?_⟩) (by assumption) ?_
              rotate_left
              focus (intro w9 hSw; (try dsimp only at hSw); go_simp; (try rw [if_pos (show (mm.length : Int) < (mm.length : Int) + 1 by omega)]); (try with_reducible rfl))
              try simp only [Act.put, List.setIfInBounds_toArray, List.set_cons_zero, List.set_cons_succ]
              refine wpAnyK_take (i := 7) (v := ?_) [8, 11, 14] rfl (by kernel_rfl) (fun _ _ _ h => h) (Or.inl ⟨by rfl, ?_⟩) (by assumption) ?_
              rotate_left
              focus (intro w9 hSw; (try dsimp only at hSw); go_simp; (try with_reducible rfl))
              try simp only [Act.put, List.setIfInBounds_toArray, List.set_cons_zero, List.set_cons_succ]
              refine wpAnyK_take (i := 8) (v := ?_) [11, 14] rfl (by kernel_rfl) (fun _ _ _ h => h) (Or.inl ⟨by rfl, ?_⟩) (by assumption) ?_
              rotate_left
              focus (intro w9 hSw; (try dsimp only at hSw); go_simp; (try with_reducible rfl))
              try simp only [Act.put, List.setIfInBounds_toArray, List.set_cons_zero, List.set_cons_succ]
              refine wpAnyK_take (i := 9) (v := ?_) [10, 11, 14] rfl (by kernel_rfl) (fun _ _ _ h => h) (Or.inl ⟨by rfl, ?_⟩) (by assumption) ?_
              rotate_left
              focus (intro w9 hSw; (try dsimp only at hSw); go_simp; (try with_reducible rfl))
              try simp only [Act.put, List.setIfInBounds_toArray, List.set_cons_zero, List.set_cons_succ]
              refine wpAnyK_one (i := 10) (by kernel_rfl) rfl (fun K9 hK9 => ?_)
              go_simp
              refine hK9.out _ _ (fun _ => HKX.out) (fun hS9 => ?_)
              replace hS9 := hS9 (by decide)
              try dsimp only at hS9
              try simp only [Act.put, List.setIfInBounds_toArray, List.set_cons_zero, List.set_cons_succ]
              refine wpAnyK_one (i := 11) (by kernel_rfl) rfl (fun K9 hK9 => ?_)
              refine step_append_at (by rfl) _ _ _ (by rfl) HR1.out (by with_reducible rfl) (by rfl) (by rfl) (by rfl) ?_
              refine hK9.out _ _ (fun _ => HK8.out) (fun hS9 => ?_)
              replace hS9 := hS9 (by decide)
              try dsimp only at hS9
              try simp only [Act.put, List.setIfInBounds_toArray, List.set_cons_zero, List.set_cons_succ]
              refine wpAnyK_one (i := 12) (by kernel_rfl) rfl (fun K9 hK9 => ?_)
              (go_simp; (try rw [if_pos (show (mm.length : Int) < (mm.length : Int) + 1 by omega)]))
              refine hK9.out _ _ (fun _ => hS9) (fun hS9 => ?_)
              replace hS9 := hS9 (by decide)
              try dsimp only at hS9
              try simp only [Act.put, List.setIfInBounds_toArray, List.set_cons_zero, List.set_cons_succ]
              refine wpAnyK_one (i := 13) (by kernel_rfl) rfl (fun K9 hK9 => ?_)
              go_simp
              refine hK9.out _ _ (fun _ => hS9) (fun hS9 => ?_)
              replace hS9 := hS9 (by decide)
              try dsimp only at hS9
              try simp only [Act.put, List.setIfInBounds_toArray, List.set_cons_zero, List.set_cons_succ]
              refine wpAnyK_one (i := 14) (by kernel_rfl) rfl (fun K9 hK9 => ?_)
              go_simp
              refine hK9.out _ _ (fun h9 => absurd rfl h9) (fun hS9 => ?_)
              try simp only [Act.put, List.setIfInBounds_toArray, List.set_cons_zero, List.set_cons_succ]
              refine wpAnyK_done (by kernel_rfl) ?_ _
              go_wp2_with (fail)
              exact ⟨⟨rest', st', kk + fl, rfl, HTX.out, HCL.out, HKL.out, ⟨_, A2, n2, c2, users, some ⟨gg, 0, none⟩, mm.length + 1, c3, mm ++ [⟨u.name, u.start, u.req, u.A, u.n, u.c, u.aft ++ [r], A9, u.n2 + 1, c9⟩], HS8.out, by rw [HL2.out, HU.out], by rw [HL2.out, List.map_append]; rfl⟩⟩, by simp only [strN]; exact HLS.out⟩
            have nwAft := hw3
            clear hw3
            have HL2 := Lib.hid (show st' = ⟨st.files, st.users, mm.map SV.srv ++ [u.srv]⟩ by rw [HL.out]; unfold moreU; rw [if_neg nwRun, if_neg nwReq, if_neg nwAft])
            have e1 : (wordT line == [117, 115, 101, 114]) = false := by rw [beq_eq_false_iff_ne]; exact hw1
            have e2 : (wordT line == [117, 110, 105, 116]) = false := by rw [beq_eq_false_iff_ne]; exact hw2
            have e3 : (wordT line == [114, 117, 110]) = false := by rw [beq_eq_false_iff_ne]; exact nwRun
            have e4 : (wordT line == [114, 101, 113, 117, 105, 114, 101, 115]) = false := by rw [beq_eq_false_iff_ne]; exact nwReq
            have e5 : (wordT line == [97, 102, 116, 101, 114]) = false := by rw [beq_eq_false_iff_ne]; exact nwAft
            generalize behindT line = r at *
            generalize wordT line = wd at *
            clear hw1 hw2 nwRun nwReq nwAft
            go_wp2_with (go_at_call 68; refine hcut.mono ?_; clear hcut; rintro e6 w6 ⟨rfl, q, hw6⟩; have h6 := HSI.out.below (show Below wr.heap.size wr w6 by rw [hw6]; exact bel_drewN (Below.refl _ _) q); have hz6 : wr.heap.size ≤ w6.heap.size := (by rw [hw6]; exact Nat.le_refl _); clear hw6; have u2 := h6.box.cell 2; have u1 := h6.box.cell 1; simp only [List.getElem?_toArray, List.getElem?_cons_zero, List.getElem?_cons_succ] at u1 u2; have HS8 := Lib.hid h6; clear h6)
            exact ⟨⟨rest', st', kk + fl, rfl, HTX.out, HCL.out, HKL.out, ⟨_, A2, n2, c2, users, some ⟨gg, 0, none⟩, mm.length + 1, c3, mm ++ [u], HS8.out, by rw [HL2.out, HU.out], by rw [HL2.out, List.map_append]; rfl⟩⟩, by simp only [strN]; exact HLS.out⟩
end Go.Proofs.YtibndaianhlcaaaGreatDoor
