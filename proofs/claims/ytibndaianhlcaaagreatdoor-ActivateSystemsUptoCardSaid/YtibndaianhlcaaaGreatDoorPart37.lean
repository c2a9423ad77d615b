/- The walk of ActivateSystems. How much an argument holds, where it is of bulk at most 1048576. -/
import Derived.Test.YtibndaianhlcaaaGreatDoorPart22
import Derived.Test.YtibndaianhlcaaaGreatDoorPart34
import Derived.Test.YtibndaianhlcaaaGreatDoorPart36
import Derived.Test.YtibndaianhlcaaaGreatDoorPart16
import Derived.Test.YtibndaianhlcaaaGreatDoorPart25
import Derived.Test.YtibndaianhlcaaaGreatDoorRows
import Derived.WideShapes
namespace Go.Proofs.YtibndaianhlcaaaGreatDoor
open Go.RowKit Go.Sort Go.Shelf
set_option linter.unusedVariables false
set_option linter.unusedSimpArgs false

/-- Entries of the call's own, their bytes written over. -/
structure WroteAt (w : World) (base : Nat) (A : Option Addr) (n c : Nat) (es : List EV) : Prop where
  slc : Slc w w.heap.size 3 A n c (es.flatMap evCells)
  len : es.length = n
  row : ∀ a, A = some a → base ≤ a.block ∧ a.block < w.heap.size
  data : ∀ e ∈ es, ∃ g, e.A = some ⟨g, 0, none⟩ ∧ base ≤ g ∧ g < w.heap.size ∧ (∀ a, A = some a → a.block ≠ g) ∧ ByteB w g e.n
  small : ∀ e ∈ es, e.n ≤ 9223372036854775807
theorem LaidAt.wrote {w : World} {base : Nat} {A : Option Addr} {n c : Nat} {es : List EV} (h : LaidAt w base A n c es) : WroteAt w base A n c es := ⟨h.ents.slc, h.ents.len, h.row, h.data, fun e he => by have h1 := (h.ents.data e he).le; have h2 := (h.ents.data e he).cmax; unfold maxLen at h2; omega⟩
theorem WroteAt.drewN {w : World} {base : Nat} {A : Option Addr} {n c : Nat} {es : List EV} (h : WroteAt w base A n c es) (q : Nat) : WroteAt (w.drewN q) base A n c es := ⟨⟨h.slc.len, h.slc.le, h.slc.cmax, h.slc.at_⟩, h.len, h.row, h.data, h.small⟩
theorem ByteB.set_ {w : World} {g n : Nat} (h : ByteB w g n) (p : Addr) (u : Value) : ByteB (w.setCell p u) g n := by
  obtain ⟨cur, fz, h1, h2, h3⟩ := h
  by_cases hg : g = p.block
  · subst hg
    refine ⟨if p.spot.isSome then cur else cur.setIfInBounds p.off u, fz, ?_, ?_, ?_⟩
    · simp [World.setCell, Array.getElem?_modify, h1]
    · split
      · exact h2
      · simpa using h2
    · split
      · exact h3
      · simpa using h3
  · exact ⟨cur, fz, (Below.heap_setCell w p u g hg).trans h1, h2, h3⟩
theorem ByteB.there {w : World} {g n k : Nat} (h : ByteB w g n) (hk : k < n) : (∃ v, w.cell? ⟨g, k, none⟩ = some v) ∧ w.frozen? ⟨g, k, none⟩ = false := by
  obtain ⟨cur, ⟨lo, hi⟩, h1, h2, h3⟩ := h
  refine ⟨⟨cur[k]'(by omega), ?_⟩, ?_⟩
  · simp [World.cell?, h1, Array.getElem?_eq_getElem (show k < cur.size by omega)]
  · simp only [World.frozen?, h1]
    rcases h3 with h3 | h3
    · injection h3 with e1 e2
      subst e1 e2
      simp
    · simp only at h3
      rw [decide_eq_false (show ¬ lo ≤ k by omega), Bool.false_and]
theorem WroteAt.at_ {w : World} {base : Nat} {A : Option Addr} {n c : Nat} {es : List EV} (h : WroteAt w base A n c es) {i : Nat} (hi : i < n) :
    ∃ b off, A = some ⟨b, off, none⟩ ∧ ∃ hl : i < es.length, w.cell? ⟨b, off + i * 3 + 2, none⟩ = some (.slice es[i].A es[i].n es[i].c) ∧
      ∃ g, es[i].A = some ⟨g, 0, none⟩ ∧ base ≤ g ∧ es[i].n ≤ 9223372036854775807 ∧ ∀ k, k < es[i].n → (∃ v, w.cell? ⟨g, k, none⟩ = some v) ∧ w.frozen? ⟨g, k, none⟩ = false ∧ ∀ u, WroteAt (w.setCell ⟨g, k, none⟩ u) base A n c es := by
  obtain ⟨b, off, e, hb, hc⟩ := h.slc.at_ (by omega)
  have hl : i < es.length := by rw [h.len]; exact hi
  obtain ⟨g, g1, g2, g3, g4, g5⟩ := h.data es[i] (List.getElem_mem hl)
  refine ⟨b, off, e, hl, ?_, g, g1, g2, h.small _ (List.getElem_mem hl), fun k hk => ⟨(g5.there hk).1, (g5.there hk).2, fun u => ⟨?_, h.len, ?_, fun x hx => ?_, h.small⟩⟩⟩
  · have h9 := hc (i * 3 + 2) (.slice es[i].A es[i].n es[i].c) (by rw [flatMap_get evCells 3 es (fun o _ => evCells_length o) i 2 hl (by decide)]; rfl)
    rwa [Nat.add_assoc]
  · have hs := h.slc
    refine ⟨hs.len, hs.le, hs.cmax, fun hp => ?_⟩
    obtain ⟨b', off', e', hb', hc'⟩ := hs.at_ hp
    refine ⟨b', off', e', by simpa using hb', fun j v hv => ?_⟩
    have hne := g4 _ e'
    simp only at hne
    rw [World.cell?_of_block (w := w) (a := ⟨b', off' + j, none⟩) (Below.heap_setCell w ⟨g, k, none⟩ u b' hne)]
    exact hc' j v hv
  · intro a ha
    simpa using h.row a ha
  · obtain ⟨g', d1, d2, d3, d4, d5⟩ := h.data x hx
    exact ⟨g', d1, d2, by simpa using d3, d4, d5.set_ _ _⟩
/-- Both arguments in their boxes, kept. -/
structure BoxSO (W w : World) (s o : OV) : Prop where
  s0 : W.cell? ⟨w.heap.size, 0, none⟩ = some (.slice s.A s.n s.c)
  s1 : W.cell? ⟨w.heap.size, 1, none⟩ = some (.slice s.A2 s.n2 s.c2)
  s2 : W.cell? ⟨w.heap.size, 2, none⟩ = some (.slice s.A3 s.n3 s.c3)
  o0 : W.cell? ⟨w.heap.size + 1, 0, none⟩ = some (.slice o.A o.n o.c)
  o1 : W.cell? ⟨w.heap.size + 1, 1, none⟩ = some (.slice o.A2 o.n2 o.c2)
  o2 : W.cell? ⟨w.heap.size + 1, 2, none⟩ = some (.slice o.A3 o.n3 o.c3)
  sAt : ObsAt W w.heap.size s
  oAt : ObsAt W w.heap.size o
  bel : Below w.heap.size w W
  lt : w.heap.size + 1 < W.heap.size
theorem box_so {w W0 W : World} {s o : OV} (hW0 : W0 = (w.alloc (.cells (ovArr s) 26)).alloc (.cells (ovArr o) 28)) (hs : ObsAt w w.heap.size s) (ho : ObsAt w w.heap.size o) (hW : Below W0.heap.size W0 W) : BoxSO W w s o := by
  have hb0 : Below w.heap.size w W0 := by rw [hW0]; exact (bel_new _ _).alloc (by simp) _
  have hz0 : W0.heap.size = w.heap.size + 2 := by rw [hW0]; simp
  have hGs : Blk W0 w.heap.size 26 (ovArr s) := by rw [hW0]; exact (Blk.new _ _ _).alloc _
  have hGo : Blk W0 (w.heap.size + 1) 28 (ovArr o) := by
    rw [hW0]
    have := Blk.new (w.alloc (.cells (ovArr s) 26)) 28 (ovArr o)
    rwa [World.size_alloc] at this
  have hb := hb0.trans (hW.mono hb0.size)
  have hs' := hGs.below hW hGs.lt
  have ho' := hGo.below hW hGo.lt
  exact ⟨hs'.cell 0, hs'.cell 1, hs'.cell 2, ho'.cell 0, ho'.cell 1, ho'.cell 2, hs.below hb, ho.below hb, hb, by have := hW.size; omega⟩
/-- Entries of a system, where there are any. -/
theorem ents_either {w : World} {B : Nat} {o : OV} (h : ObsAt w B o) (hB : B ≤ w.heap.size) (hs : SmallO o) :
    Calls Tryz.prog 13 #[.agg (ovArr o)] w fun e w' => ∃ A n c l, e = .returned (.slice A n c) ∧ l.map EV.ent = (if rightS (sysO o) = true then laidS (sysO o) else []) ∧ EntsAt w' w'.heap.size A n c l ∧ WroteAt w' w.heap.size A n c l ∧ Below w.heap.size w w' := by
  refine (Entries21_any h hB hs).mono ?_
  intro e w' h9
  by_cases hr : rightS (sysO o) = true
  · rw [if_pos hr] at h9
    obtain ⟨A, n, c, es, fs, x, e1, e2, e3, e4, _, e5⟩ := h9
    exact ⟨A, n, c, es, e1, by rw [if_pos hr]; exact e3, e4.ents, e4.wrote, e5⟩
  · rw [if_neg hr] at h9
    obtain ⟨e1, e2⟩ := h9
    exact ⟨none, 0, 0, [], e1, by rw [if_neg hr]; rfl, ⟨slc_none _ _ _, rfl, (fun e he => by cases he)⟩, ⟨slc_none _ _ _, rfl, (fun a ha => by cases ha), (fun e he => by cases he), (fun e he => by cases he)⟩, e2⟩
theorem OwnEnts.far {w : World} {base : Nat} {v : Value} {n : Nat} {es : List EV} (h : OwnEnts w base v n es) {p : Addr} (hp : p.block < base) (u : Value) : OwnEnts (w.setCell p u) base v n es :=
  h.set_ (fun e => by have := (h.own.lt _ e).1; omega) (fun e he g hg e1 => by
    obtain ⟨g', g1, g2, _⟩ := h.data e he
    rw [hg] at g1
    injection g1 with g1
    injection g1 with g1
    omega) u
theorem SmallO.same {a b : OV} (h : SmallO a) (h1 : b.es.map EV.ent = a.es.map EV.ent) (h2 : b.users = a.users) (h3 : b.us = a.us) (h4 : b.n = a.n) (h5 : b.n2 = a.n2) (h6 : b.n3 = a.n3) : SmallO b := by
  refine ⟨fun e he => ?_, by rw [h2]; exact h.users, by rw [h3]; exact h.units, by rw [h4]; exact h.n, by rw [h5]; exact h.n2, by rw [h6]; exact h.n3⟩
  have hm : e.ent ∈ b.es.map EV.ent := List.mem_map.2 ⟨e, he, rfl⟩
  rw [h1] at hm
  obtain ⟨e0, he0, hee⟩ := List.mem_map.1 hm
  have := h.ents e0 he0
  have p1 : e.path = e0.path := (congrArg Ent.path hee).symm
  have p2 : e.data = e0.data := (congrArg Ent.data hee).symm
  rw [p1, p2]
  exact this
set_option maxRecDepth 100000 in
set_option maxHeartbeats 4000000 in
theorem systems21_any {w : World} {s o : OV} (hs : ObsAt w w.heap.size s) (hss : SmallO s) (ho : ObsAt w w.heap.size o) :
    Calls Tryz.prog 3 #[.agg (ovArr s), .agg (ovArr o)] w fun e w' => e = .returned (.bool true) ∧ Below w.heap.size w w' := by
  obtain ⟨W0, hW0⟩ : ∃ W0, W0 = (w.alloc (.cells (ovArr s) 26)).alloc (.cells (ovArr o) 28) := ⟨_, rfl⟩
  have hsh := shown21_any W0
  have HBX := Lib.hid (fun (W : World) (hW : Below W0.heap.size W0 W) => box_so hW0 hs ho hW)
  have HSS := Lib.hid hss
  obtain ⟨p, hp⟩ : ∃ p, p = sysO s := ⟨_, rfl⟩
  have HP := Lib.hid hp
  have hn : s.n ≤ 1048576 := hss.n
  obtain ⟨As, ns, cs, es, As2, ns2, cs2, us, As3, ns3, cs3, vs⟩ := s
  obtain ⟨Ao, no, co, eo, Ao2, no2, co2, uo, Ao3, no3, co3, vo⟩ := o
  rw [hW0] at hsh
  unfold ovArr at hsh hW0 ⊢
  simp only at hsh hW0 hn ⊢
  have HW0 := Lib.hid hW0
  clear hs ho hss hp hW0
  go_enter Tryz.func3, Tryz.ntmps3
  go_upto_region 3 with (first
    | (go_at_call 10; refine hsh.mono ?_; clear hsh; rintro e w1 ⟨rfl, hb1⟩; rw [← HW0.out] at hb1; have HB1 := Lib.hid hb1; have hx := HBX.out _ hb1; have k0 := hx.s0; have k1 := hx.s1; have k2 := hx.s2; have hen := refEntries21_any hx.sAt hx.bel.size HSS.out; rw [← HP.out] at hen; unfold ovArr at hen; simp only at hen k0 k1 k2; clear hb1 hx)
    | (go_at_call 11; refine hen.mono ?_; clear hen; rintro e w2 ⟨Aw, nw, cw, ew, rfl, hew, hwe, hb2⟩; have HEW := Lib.hid hew; have HWE := Lib.hid hwe; have hb2' := HB1.out.trans (hb2.mono HB1.out.size); have HB2 := Lib.hid hb2'; have hx := HBX.out _ hb2'; have l0 := hx.s0; have l1 := hx.s1; have l2 := hx.s2; simp only at l0 l1 l2; clear hew hwe hb2 hb2' hx))
  have HKS := Lib.hid (fun (W : World) (hW : Below w2.heap.size w2 W) => show W.cell? ⟨w.heap.size, 0, none⟩ = some (.slice As ns cs) ∧ W.cell? ⟨w.heap.size, 1, none⟩ = some (.slice As2 ns2 cs2) ∧ W.cell? ⟨w.heap.size, 2, none⟩ = some (.slice As3 ns3 cs3) from
    have hx := HBX.out _ (HB2.out.trans (hW.mono HB2.out.size))
    ⟨hx.s0, hx.s1, hx.s2⟩)
  have HCP := Lib.hid (fun (W : World) (hW : Below w2.heap.size w2 W) =>
    have hx := HBX.out _ (HB2.out.trans (hW.mono HB2.out.size))
    (copied21_any (w := W) hx.sAt.files hx.bel.size (by simp only; omega) (fun e he => Nat.le_trans (HSS.out.ents e he).2 (by decide))).mono fun e w' h9 => show ∃ A' c' es', e = .returned (.slice A' ns c') ∧ (OwnEnts w' W.heap.size (.slice A' ns c') ns es' ∧ es'.map EV.ent = es.map EV.ent) ∧ Below w2.heap.size w2 w' ∧ Below W.heap.size W w' from by
      obtain ⟨A', c', es', h1, h2, h3, h4⟩ := h9
      exact ⟨A', c', es', h1, ⟨h2, h3⟩, hW.trans (h4.mono hW.size), h4⟩)
  simp only at HCP
  obtain ⟨z0, z1, z2⟩ := HKS.out (w2.alloc (.cells #[.slice none 0 0, .slice none 0 0, .slice none 0 0] 26)).drew (bel_new w2 _).drew
  obtain ⟨y0, y1, y2⟩ := HKS.out (w2.drew) (Below.refl _ _).drew
  go_cut [7] from 15 to 24 (fun s7 wx => ∃ (g : Nat) (A' : Option Addr) (c' : Nat) (es' : List EV), s7 = .pointer (some ⟨g, 0, none⟩) ∧ Blk wx g 26 #[.slice A' ns c', .slice As2 ns2 cs2, .slice As3 ns3 cs3] ∧ OwnEnts wx w2.heap.size (.slice A' ns c') ns es' ∧ es'.map EV.ent = es.map EV.ent ∧ Below w2.heap.size w2 wx)
  case first =>
    go_wp2_with (fail)
    go_region_held_law (fun W' => W'.cell? ⟨w.heap.size, 0, none⟩ = some (.slice As ns cs) ∧ W'.cell? ⟨w.heap.size, 1, none⟩ = some (.slice As2 ns2 cs2) ∧ W'.cell? ⟨w.heap.size, 2, none⟩ = some (.slice As3 ns3 cs3))
      (first
      | exact ⟨a0, a1, a2⟩
      | exact ⟨m0, m1, m2⟩
      | exact HKS.out _ (HB3.out.trans ((bel_new w3 _).mono HB3.out.size))
      | exact HKS.out _ (((HB3.out.setCell (p := ⟨w2.heap.size, 0, none⟩) (Nat.le_refl _) _).setCell (p := ⟨w2.heap.size, 1, none⟩) (Nat.le_refl _) _).setCell (p := ⟨w2.heap.size, 2, none⟩) (Nat.le_refl _) _)
      | exact ⟨z0, z1, z2⟩
      | exact ⟨y0, y1, y2⟩
      | (refine HKS.out _ ?_; first | exact (bel_new w2 _).drew | exact (Below.refl _ _).drew | exact bel_new w2 _))
      (first
      | (go_simp; go_at_call 12; refine (HCP.out ((w2.alloc (.cells #[.slice none 0 0, .slice none 0 0, .slice none 0 0] 26)).drew) ((bel_new w2 _).drew)).mono ?_; rintro e3 w3 ⟨A', c', es', rfl, hown, hb3, hb3'⟩; obtain ⟨m0, m1, m2⟩ := HKS.out w3 hb3; have hBk := Blk.below (Blk.new w2 26 #[.slice none 0 0, .slice none 0 0, .slice none 0 0]).drew hb3' (by simp); have b0 := hBk.cell 0; have b1 := hBk.cell 1; have b2 := hBk.cell 2; have f0 := hBk.frozen 0; have f1 := hBk.frozen 1; have f2 := hBk.frozen 2; simp only [List.getElem?_toArray, List.getElem?_cons_zero, List.getElem?_cons_succ] at b0 b1 b2; have HC3 := Lib.hid hown; have HB3 := Lib.hid hb3; have HBK := Lib.hid hBk; clear hown hb3 hb3' hBk)
      | (go_simp; go_at_call 12; refine (HCP.out w2.drew ((Below.refl _ w2).drew)).mono ?_; rintro e3 w3 ⟨A', c', es', rfl, hown, hb3, hb3'⟩; obtain ⟨m0, m1, m2⟩ := HKS.out w3 hb3; have HC3 := Lib.hid hown; have HB3 := Lib.hid hb3; obtain ⟨a0, a1, a2⟩ := HKS.out (w3.alloc (.cells #[.slice none 0 0, .slice none 0 0, .slice none 0 0] 26)) (hb3.trans ((bel_new w3 _).mono hb3.size)); clear hown hb3 hb3'))
    all_goals (go_wp2_with (fail))
    · go_meet
      case rel => exact ⟨w3.heap.size, A', c', es', rfl, Blk.new w3 _ _, (HC3.out.1.below (bel_new w3 _)).lower (Nat.le_refl _), HC3.out.2, HB3.out.trans ((bel_new w3 _).mono HB3.out.size)⟩
    · go_meet
      case rel => exact ⟨w2.heap.size, A', c', es', rfl, ((HBK.out.set_ 0 _).set_ 1 _).set_ 2 _, ((((HC3.out.1.far (by simp) _).far (by simp) _).far (by simp) _).lower (by simp)), HC3.out.2, ((HB3.out.setCell (p := ⟨w2.heap.size, 0, none⟩) (Nat.le_refl _) _).setCell (p := ⟨w2.heap.size, 1, none⟩) (Nat.le_refl _) _).setCell (p := ⟨w2.heap.size, 2, none⟩) (Nat.le_refl _) _⟩
  case rest =>
    obtain ⟨g, A', c', es', rfl, hg5, ho5, hm5, hb5⟩ := hcut
    have hb05 := HB2.out.trans (hb5.mono HB2.out.size)
    have hx5 := HBX.out _ hb05
    have HOW := Lib.hid (show ObsAt wc wc.heap.size ⟨A', ns, c', es', As2, ns2, cs2, us, As3, ns3, cs3, vs⟩ from ⟨ho5.ents, (hx5.sAt.more3 hx5.bel.size).users, (hx5.sAt.more3 hx5.bel.size).units⟩)
    have HG5 := Lib.hid hg5
    have HB5 := Lib.hid hb5
    have HB05 := Lib.hid hb05
    have HSO := Lib.hid (HSS.out.same (b := ⟨A', ns, c', es', As2, ns2, cs2, us, As3, ns3, cs3, vs⟩) hm5 rfl rfl rfl rfl rfl)
    have HPO := Lib.hid (show sysO ⟨A', ns, c', es', As2, ns2, cs2, us, As3, ns3, cs3, vs⟩ = p from HP.out ▸ (show (⟨es'.map EV.ent, us, vs.map SV.srv⟩ : SysP) = ⟨es.map EV.ent, us, vs.map SV.srv⟩ by rw [hm5]))
    have HEQ := Lib.hid (fun x : List Ent => entsEq_iff x x |>.2 rfl)
    clear hg5 ho5 hm5 hb5 hb05 hx5
    go_wp2_with (fail)
    go_loopw [8] (fun i wr => ∃ k : Nat, k ≤ 2 ∧ i = .int .i64 (k : Int) ∧ Aside (Below wc.heap.size wc wr)) (fun i _ => 2 - (intOf i).toNat)
    case atStart => exact ⟨0, by omega, rfl, Below.refl _ _⟩
    case round =>
      obtain ⟨k, hk, rfl, hb⟩ := hrel
      have hG := HG5.out.below hb.out HG5.out.lt
      have g0 := hG.cell 0
      have g1 := hG.cell 1
      have g2 := hG.cell 2
      simp only [List.getElem?_toArray, List.getElem?_cons_zero, List.getElem?_cons_succ] at g0 g1 g2
      have HB := Lib.hid hb.out
      clear hG hb
      by_cases hlt : k < 2
      · have hen := ents_either (HOW.out.below HB.out) HB.out.size HSO.out
        rw [HPO.out] at hen
        unfold ovArr at hen
        simp only at hen
        go_wp2_with (first
          | (go_at_call 13; refine hen.mono ?_; clear hen; rintro e8 w8 ⟨Al, nl, cl, l, rfl, hml, hel, hwl, hb8⟩; have hsm := refSame_any hel (HWE.out.below (HB5.out.trans ((HB.out.trans (hb8.mono HB.out.size)).mono HB5.out.size))); rw [hml, HEW.out, HEQ.out] at hsm; have HWL := Lib.hid hwl; have HB8 := Lib.hid (HB.out.trans (hb8.mono HB.out.size)); clear hml hel hwl hb8)
          | (go_at_call 14; refine hsm.mono ?_; clear hsm; rintro e9 w9 ⟨rfl, q9, rfl⟩))
        have HBS := Lib.hid HB.out.size
        have hnl : nl ≤ 9223372036854775807 := by have h1 := HWL.out.slc.le; have h2 := HWL.out.slc.cmax; unfold maxLen at h2; omega
        clear g0 g1 g2
        generalize wr.heap.size = base8 at *
        clear HB
        go_loopw [11] (fun s wr => ∃ i : Nat, i ≤ nl ∧ s = .int .i64 (i : Int) ∧ Aside (WroteAt wr base8 Al nl cl l) ∧ Aside (Below wc.heap.size wc wr)) (fun s _ => nl - (intOf s).toNat)
        case atStart => exact ⟨0, Nat.zero_le _, rfl, HWL.out.drewN q9, bel_drewN HB8.out q9⟩
        case round =>
          obtain ⟨i, hi, rfl, hwr, hb2⟩ := hrel
          have HW2 := Lib.hid hwr.out
          have HB2' := Lib.hid hb2.out
          clear hwr hb2
          by_cases hlt2 : i < nl
          · obtain ⟨b, off, rfl, hl, cc, gg, hA, hgb, hun0, hkk⟩ := HW2.out.at_ hlt2
            have HAT := Lib.hid (fun (W : World) (h : WroteAt W base8 (some ⟨b, off, none⟩) nl cl l) => show W.cell? ⟨b, off + i * 3 + 2, none⟩ = some (.slice l[i].A l[i].n l[i].c) ∧ ∃ gg, l[i].A = some ⟨gg, 0, none⟩ ∧ base8 ≤ gg ∧ l[i].n ≤ 9223372036854775807 ∧ ∀ k, k < l[i].n → (∃ v, W.cell? ⟨gg, k, none⟩ = some v) ∧ W.frozen? ⟨gg, k, none⟩ = false ∧ ∀ u, WroteAt (W.setCell ⟨gg, k, none⟩ u) base8 (some ⟨b, off, none⟩) nl cl l from by
              obtain ⟨b', off', e, hl', cc', gg', hA', hgb', hun', hkk'⟩ := h.at_ hlt2
              injection e with e
              injection e with e1 e2
              subst e1 e2
              exact ⟨cc', gg', hA', hgb', hun', hkk'⟩)
            clear cc hA hgb hkk hun0 gg
            generalize l[i] = u at *
            go_wp2_with (fail)
            go_loopw [12] (fun s wr => ∃ j : Nat, j ≤ u.n ∧ s = .int .i64 (j : Int) ∧ Aside (WroteAt wr base8 (some ⟨b, off, none⟩) nl cl l) ∧ Aside (Below wc.heap.size wc wr)) (fun s _ => u.n - (intOf s).toNat)
            case atStart => exact ⟨0, Nat.zero_le _, rfl, HW2.out, HB2'.out⟩
            case round =>
              obtain ⟨j, hj, rfl, hw3, hb3⟩ := hrel
              obtain ⟨cc, gg, hA, hgb, hun, hkk⟩ := HAT.out _ hw3.out
              rw [hA] at cc
              have HB3 := Lib.hid hb3.out
              have HW3 := Lib.hid hw3.out
              have HGB := Lib.hid (show wc.heap.size ≤ gg from Nat.le_trans HBS.out hgb)
              clear hA hgb hb3 hw3
              by_cases hlt3 : j < u.n
              · obtain ⟨⟨v, hv⟩, hf, hkeep⟩ := hkk j hlt3
                have HKP := Lib.hid hkeep
                clear hkeep hkk
                go_wp2_with (fail)
                exact ⟨⟨j + 1, by omega, by go_num, HKP.out _, HB3.out.setCell (p := ⟨gg, j, none⟩) HGB.out _⟩, by simp [intOf]; omega⟩
              · obtain rfl : j = u.n := by omega
                clear hkk
                go_wp2_with (fail)
                exact ⟨⟨i + 1, by omega, by go_num, HW3.out, HB3.out⟩, by simp [intOf]; omega⟩
          · obtain rfl : i = nl := by omega
            go_wp2_with (fail)
            exact ⟨⟨k + 1, by omega, by go_num, HB2'.out⟩, by simp [intOf]; omega⟩
      · obtain rfl : k = 2 := by omega
        obtain ⟨W10, hW10⟩ : ∃ W10, W10 = wr.alloc (.cells #[.slice As ns cs, .slice As2 ns2 cs2, .slice As3 ns3 cs3] 28) := ⟨_, rfl⟩
        have hbw10 : Below wr.heap.size wr W10 := by rw [hW10]; exact bel_new _ _
        have hmet : Blk W10 wr.heap.size 28 #[.slice As ns cs, .slice As2 ns2 cs2, .slice As3 ns3 cs3] := by rw [hW10]; exact Blk.new _ _ _
        have HALL := Lib.hid (fun (W : World) (hW : Below W10.heap.size W10 W) => show (W.cell? ⟨w.heap.size, 0, none⟩ = some (.slice As ns cs) ∧ W.cell? ⟨w.heap.size, 1, none⟩ = some (.slice As2 ns2 cs2) ∧ W.cell? ⟨w.heap.size, 2, none⟩ = some (.slice As3 ns3 cs3) ∧ W.cell? ⟨w.heap.size + 1, 0, none⟩ = some (.slice Ao no co) ∧ W.cell? ⟨w.heap.size + 1, 1, none⟩ = some (.slice Ao2 no2 co2) ∧ W.cell? ⟨w.heap.size + 1, 2, none⟩ = some (.slice Ao3 no3 co3) ∧ W.cell? ⟨g, 0, none⟩ = some (.slice A' ns c') ∧ W.cell? ⟨g, 1, none⟩ = some (.slice As2 ns2 cs2) ∧ W.cell? ⟨g, 2, none⟩ = some (.slice As3 ns3 cs3) ∧ W.cell? ⟨wr.heap.size, 0, none⟩ = some (.slice As ns cs) ∧ W.cell? ⟨wr.heap.size, 1, none⟩ = some (.slice As2 ns2 cs2) ∧ W.cell? ⟨wr.heap.size, 2, none⟩ = some (.slice As3 ns3 cs3)) ∧ ObsAt W w.heap.size ⟨As, ns, cs, es, As2, ns2, cs2, us, As3, ns3, cs3, vs⟩ ∧ ObsAt W w.heap.size ⟨Ao, no, co, eo, Ao2, no2, co2, uo, Ao3, no3, co3, vo⟩ ∧ ObsAt W wc.heap.size ⟨A', ns, c', es', As2, ns2, cs2, us, As3, ns3, cs3, vs⟩ ∧ Below w.heap.size w W from by
          have hbW := hbw10.trans (hW.mono hbw10.size)
          have hbc := HB.out.trans (hbW.mono HB.out.size)
          have hx := HBX.out W (HB05.out.trans (hbc.mono HB05.out.size))
          have hg := HG5.out.below hbc HG5.out.lt
          have hm := hmet.below hW hmet.lt
          exact ⟨⟨hx.s0, hx.s1, hx.s2, hx.o0, hx.o1, hx.o2, hg.cell 0, hg.cell 1, hg.cell 2, hm.cell 0, hm.cell 1, hm.cell 2⟩, hx.sAt, hx.oAt, HOW.out.below hbc, hx.bel⟩)
        have HWW := Lib.hid (show w.heap.size ≤ wc.heap.size from (HBX.out _ HB05.out).bel.size)
        have HWR := Lib.hid (show wc.heap.size ≤ W10.heap.size from Nat.le_trans HB.out.size hbw10.size)
        have HWS := Lib.hid (show sysO ⟨A', ns, c', es', As2, ns2, cs2, us, As3, ns3, cs3, vs⟩ = sysO ⟨As, ns, cs, es, As2, ns2, cs2, us, As3, ns3, cs3, vs⟩ from HPO.out.trans HP.out)
        obtain ⟨hc0, hs0, ho0, hw0, hbl0⟩ := HALL.out W10.drew (Below.refl _ _).drew
        have HC0 := Lib.hid hc0
        have h1 := right21_any hs0 hbl0.size HSS.out
        rw [← HP.out, hW10] at h1
        unfold ovArr at h1
        simp only at h1
        have hx := HBX.out _ (HB05.out.trans (HB.out.mono HB05.out.size))
        have s0 := hx.s0
        have s1 := hx.s1
        have s2 := hx.s2
        simp only at s0 s1 s2
        have hxx : ∀ x : Bool, (x == x) = true := fun x => by cases x <;> rfl
        have hx1 := hxx (rightS p)
        have hx2 := hxx (sameO ⟨Ao, no, co, eo, Ao2, no2, co2, uo, Ao3, no3, co3, vo⟩ ⟨As, ns, cs, es, As2, ns2, cs2, us, As3, ns3, cs3, vs⟩)
        clear hx hbw10 hmet hs0 ho0 hw0 hbl0 hxx hc0
        go_upto_region 19 with (fail)
        clear s0 s1 s2 g0 g1 g2
        rw [← hW10]
        rw [← hW10] at h1
        clear hW10
        refine wp_region_K (fun W' => W'.cell? ⟨w.heap.size, 0, none⟩ = some (.slice As ns cs) ∧ W'.cell? ⟨w.heap.size, 1, none⟩ = some (.slice As2 ns2 cs2) ∧ W'.cell? ⟨w.heap.size, 2, none⟩ = some (.slice As3 ns3 cs3) ∧ W'.cell? ⟨w.heap.size + 1, 0, none⟩ = some (.slice Ao no co) ∧ W'.cell? ⟨w.heap.size + 1, 1, none⟩ = some (.slice Ao2 no2 co2) ∧ W'.cell? ⟨w.heap.size + 1, 2, none⟩ = some (.slice Ao3 no3 co3) ∧ W'.cell? ⟨g, 0, none⟩ = some (.slice A' ns c') ∧ W'.cell? ⟨g, 1, none⟩ = some (.slice As2 ns2 cs2) ∧ W'.cell? ⟨g, 2, none⟩ = some (.slice As3 ns3 cs3) ∧ W'.cell? ⟨wr.heap.size, 0, none⟩ = some (.slice As ns cs) ∧ W'.cell? ⟨wr.heap.size, 1, none⟩ = some (.slice As2 ns2 cs2) ∧ W'.cell? ⟨wr.heap.size, 2, none⟩ = some (.slice As3 ns3 cs3)) 27 (by kernel_rfl) HC0.out (fun hS9 => ?_)
        try simp only [Act.put, List.setIfInBounds_toArray, List.set_cons_zero, List.set_cons_succ]
        refine wpAnyK_one (i := 0) (by kernel_rfl) rfl (fun K9 hK9 => ?_)
        go_simp
        refine hK9.out _ _ (fun _ => hS9) (fun hS9 => ?_)
        replace hS9 := hS9 (by decide)
        try dsimp only at hS9
        try simp only [Act.put, List.setIfInBounds_toArray, List.set_cons_zero, List.set_cons_succ]
        refine wpAnyK_one (i := 1) (by kernel_rfl) rfl (fun K9 hK9 => ?_)
        go_simp
        refine hK9.out _ _ (fun _ => hS9) (fun hS9 => ?_)
        replace hS9 := hS9 (by decide)
        try dsimp only at hS9
        try simp only [Act.put, List.setIfInBounds_toArray, List.set_cons_zero, List.set_cons_succ]
        refine wpAnyK_take (i := 2) (v := ?_) [3, 6, 7, 8, 16, 17, 21, 22, 26, 27] rfl (by kernel_rfl) (fun _ _ _ h => h) (Or.inl ⟨by rfl, ?_⟩) (by assumption) ?_
        rotate_left
        focus (intro w9 hSw; (try dsimp only at hSw); go_simp; (try with_reducible rfl))
        try simp only [Act.put, List.setIfInBounds_toArray, List.set_cons_zero, List.set_cons_succ]
        refine wpAnyK_take (i := 4) (v := ?_) [5, 6, 7, 8, 16, 17, 21, 22, 26, 27] rfl (by kernel_rfl) (fun _ _ _ h => h) (Or.inl ⟨by rfl, ?_⟩) (by assumption) ?_
        rotate_left
        focus (intro w9 hSw; (try dsimp only at hSw); go_simp; (try with_reducible rfl))
        try simp only [Act.put, List.setIfInBounds_toArray, List.set_cons_zero, List.set_cons_succ]
        refine wpAnyK_one (i := 3) (by kernel_rfl) rfl (fun K9 hK9 => ?_)
        (go_simp; go_at_call 15; refine h1.mono ?_; clear h1; rintro e21 w21 ⟨rfl, hb21⟩; have hbb21 := (Below.refl _ W10).drew.trans hb21; have HBB21 := Lib.hid hbb21; obtain ⟨hc21, hs21, ho21, hw21, hbl21⟩ := HALL.out _ hbb21; have HC21 := Lib.hid hc21; have h2 := refRight21_any hs21 (Nat.le_trans hbl21.size (Nat.le_refl _)) HSS.out; rw [← HP.out] at h2; unfold ovArr at h2; simp only at h2; clear hb21 hbb21 hc21 hs21 ho21 hw21 hbl21)
        refine hK9.out _ _ (fun _ => HC21.out) (fun hS9 => ?_)
        replace hS9 := hS9 (by decide)
        try dsimp only at hS9
        try simp only [Act.put, List.setIfInBounds_toArray, List.set_cons_zero, List.set_cons_succ]
        refine wpAnyK_one (i := 5) (by kernel_rfl) rfl (fun K9 hK9 => ?_)
        (go_simp; go_at_call 16; refine h2.mono ?_; clear h2; rintro e22 w22 ⟨rfl, hb22⟩; have hbb22 := HBB21.out.trans (hb22.mono HBB21.out.size); have HBB22 := Lib.hid hbb22; obtain ⟨hc22, hs22, ho22, hw22, hbl22⟩ := HALL.out _ hbb22; have HC22 := Lib.hid hc22; have h3 := meets21_any ho22 hs22 hbl22.size; unfold ovArr at h3; simp only at h3; clear hb22 hbb22 hc22 hs22 ho22 hw22 hbl22)
        refine hK9.out _ _ (fun _ => HC22.out) (fun hS9 => ?_)
        replace hS9 := hS9 (by decide)
        try dsimp only at hS9
        try simp only [Act.put, List.setIfInBounds_toArray, List.set_cons_zero, List.set_cons_succ]
        refine wpAnyK_one (i := 6) (by kernel_rfl) rfl (fun K9 hK9 => ?_)
        go_simp
        (try simp only [hx1])
        refine hK9.out _ _ (fun _ => hS9) (fun hS9 => ?_)
        replace hS9 := hS9 (by decide)
        try dsimp only at hS9
        try simp only [Act.put, List.setIfInBounds_toArray, List.set_cons_zero, List.set_cons_succ]
        refine wpAnyK_one (i := 7) (by kernel_rfl) rfl (fun K9 hK9 => ?_)
        go_simp
        refine hK9.out _ _ (fun _ => hS9) (fun hS9 => ?_)
        replace hS9 := hS9 (by decide)
        try dsimp only at hS9
        try simp only [Act.put, List.setIfInBounds_toArray, List.set_cons_zero, List.set_cons_succ]
        refine wpAnyK_one (i := 8) (by kernel_rfl) rfl (fun K9 hK9 => ?_)
        go_simp
        refine hK9.out _ _ (fun _ => hS9) (fun hS9 => ?_)
        replace hS9 := hS9 (by decide)
        try dsimp only at hS9
        try simp only [Act.put, List.setIfInBounds_toArray, List.set_cons_zero, List.set_cons_succ]
        refine wpAnyK_take (i := 9) (v := ?_) [11, 15, 16, 17, 21, 22, 26, 27] rfl (by kernel_rfl) (fun _ _ _ h => h) (Or.inl ⟨by rfl, ?_⟩) (by assumption) ?_
        rotate_left
        focus (intro w9 hSw; (try dsimp only at hSw); go_simp; (try with_reducible rfl))
        try simp only [Act.put, List.setIfInBounds_toArray, List.set_cons_zero, List.set_cons_succ]
        refine wpAnyK_take (i := 10) (v := ?_) [11, 15, 16, 17, 21, 22, 26, 27] rfl (by kernel_rfl) (fun _ _ _ h => h) (Or.inl ⟨by rfl, ?_⟩) (by assumption) ?_
        rotate_left
        focus (intro w9 hSw; (try dsimp only at hSw); go_simp; (try with_reducible rfl))
        try simp only [Act.put, List.setIfInBounds_toArray, List.set_cons_zero, List.set_cons_succ]
        refine wpAnyK_take (i := 12) (v := ?_) [14, 15, 16, 17, 21, 22, 26, 27] rfl (by kernel_rfl) (fun _ _ _ h => h) (Or.inl ⟨by rfl, ?_⟩) (by assumption) ?_
        rotate_left
        focus (intro w9 hSw; (try dsimp only at hSw); go_simp; (try with_reducible rfl))
        try simp only [Act.put, List.setIfInBounds_toArray, List.set_cons_zero, List.set_cons_succ]
        refine wpAnyK_take (i := 13) (v := ?_) [14, 15, 16, 17, 21, 22, 26, 27] rfl (by kernel_rfl) (fun _ _ _ h => h) (Or.inl ⟨by rfl, ?_⟩) (by assumption) ?_
        rotate_left
        focus (intro w9 hSw; (try dsimp only at hSw); go_simp; (try with_reducible rfl))
        try simp only [Act.put, List.setIfInBounds_toArray, List.set_cons_zero, List.set_cons_succ]
        refine wpAnyK_one (i := 11) (by kernel_rfl) rfl (fun K9 hK9 => ?_)
        (go_simp; go_at_call 17; refine h3.mono ?_; clear h3; rintro e23 w23 ⟨rfl, hb23⟩; have hbb23 := HBB22.out.trans (hb23.mono HBB22.out.size); have HBB23 := Lib.hid hbb23; obtain ⟨hc23, hs23, ho23, hw23, hbl23⟩ := HALL.out _ hbb23; have HC23 := Lib.hid hc23; have h4 := refMeets21_any ho23 hs23 hbl23.size; unfold ovArr at h4; simp only at h4; clear hb23 hbb23 hc23 hs23 ho23 hw23 hbl23)
        refine hK9.out _ _ (fun _ => HC23.out) (fun hS9 => ?_)
        replace hS9 := hS9 (by decide)
        try dsimp only at hS9
        try simp only [Act.put, List.setIfInBounds_toArray, List.set_cons_zero, List.set_cons_succ]
        refine wpAnyK_one (i := 14) (by kernel_rfl) rfl (fun K9 hK9 => ?_)
        (go_simp; go_at_call 18; refine h4.mono ?_; clear h4; rintro e24 w24 ⟨rfl, hb24⟩; have hbb24 := HBB23.out.trans (hb24.mono HBB23.out.size); have HBB24 := Lib.hid hbb24; obtain ⟨hc24, hs24, ho24, hw24, hbl24⟩ := HALL.out _ hbb24; have HC24 := Lib.hid hc24; have h5 := meets21_any (a := ⟨As, ns, cs, es, As2, ns2, cs2, us, As3, ns3, cs3, vs⟩) (b := ⟨As, ns, cs, es, As2, ns2, cs2, us, As3, ns3, cs3, vs⟩) hs24 hs24 hbl24.size; rw [same_sys rfl] at h5; unfold ovArr at h5; simp only at h5; clear hb24 hbb24 hc24 hs24 ho24 hw24 hbl24)
        refine hK9.out _ _ (fun _ => HC24.out) (fun hS9 => ?_)
        replace hS9 := hS9 (by decide)
        try dsimp only at hS9
        try simp only [Act.put, List.setIfInBounds_toArray, List.set_cons_zero, List.set_cons_succ]
        refine wpAnyK_one (i := 15) (by kernel_rfl) rfl (fun K9 hK9 => ?_)
        go_simp
        (try simp only [hx2])
        refine hK9.out _ _ (fun _ => hS9) (fun hS9 => ?_)
        replace hS9 := hS9 (by decide)
        try dsimp only at hS9
        try simp only [Act.put, List.setIfInBounds_toArray, List.set_cons_zero, List.set_cons_succ]
        refine wpAnyK_one (i := 16) (by kernel_rfl) rfl (fun K9 hK9 => ?_)
        go_simp
        refine hK9.out _ _ (fun _ => hS9) (fun hS9 => ?_)
        replace hS9 := hS9 (by decide)
        try dsimp only at hS9
        try simp only [Act.put, List.setIfInBounds_toArray, List.set_cons_zero, List.set_cons_succ]
        refine wpAnyK_one (i := 17) (by kernel_rfl) rfl (fun K9 hK9 => ?_)
        go_simp
        refine hK9.out _ _ (fun _ => hS9) (fun hS9 => ?_)
        replace hS9 := hS9 (by decide)
        try dsimp only at hS9
        try simp only [Act.put, List.setIfInBounds_toArray, List.set_cons_zero, List.set_cons_succ]
        refine wpAnyK_take (i := 18) (v := ?_) [20, 21, 22, 26, 27] rfl (by kernel_rfl) (fun _ _ _ h => h) (Or.inl ⟨by rfl, ?_⟩) (by assumption) ?_
        rotate_left
        focus (intro w9 hSw; (try dsimp only at hSw); go_simp; (try with_reducible rfl))
        try simp only [Act.put, List.setIfInBounds_toArray, List.set_cons_zero, List.set_cons_succ]
        refine wpAnyK_take (i := 19) (v := ?_) [20, 21, 22, 26, 27] rfl (by kernel_rfl) (fun _ _ _ h => h) (Or.inl ⟨by rfl, ?_⟩) (by assumption) ?_
        rotate_left
        focus (intro w9 hSw; (try dsimp only at hSw); go_simp; (try with_reducible rfl))
        try simp only [Act.put, List.setIfInBounds_toArray, List.set_cons_zero, List.set_cons_succ]
        refine wpAnyK_one (i := 20) (by kernel_rfl) rfl (fun K9 hK9 => ?_)
        (go_simp; go_at_call 17; refine h5.mono ?_; clear h5; rintro e25 w25 ⟨rfl, hb25⟩; have hbb25 := HBB24.out.trans (hb25.mono HBB24.out.size); have HBB25 := Lib.hid hbb25; obtain ⟨hc25, hs25, ho25, hw25, hbl25⟩ := HALL.out _ hbb25; have HC25 := Lib.hid hc25; have h6 := lawAlike21_any (a := ⟨A', ns, c', es', As2, ns2, cs2, us, As3, ns3, cs3, vs⟩) (b := ⟨As, ns, cs, es, As2, ns2, cs2, us, As3, ns3, cs3, vs⟩) (hw25.more3 (Nat.le_refl _)) (hs25.more3 HWW.out) (Nat.le_trans HWR.out (Nat.le_trans (by simp) HBB25.out.size)); rw [same_sys HWS.out] at h6; unfold ovArr at h6; simp only at h6; clear hb25 hbb25 hc25 hs25 ho25 hw25 hbl25)
        refine hK9.out _ _ (fun _ => HC25.out) (fun hS9 => ?_)
        replace hS9 := hS9 (by decide)
        try dsimp only at hS9
        try simp only [Act.put, List.setIfInBounds_toArray, List.set_cons_zero, List.set_cons_succ]
        refine wpAnyK_one (i := 21) (by kernel_rfl) rfl (fun K9 hK9 => ?_)
        go_simp
        refine hK9.out _ _ (fun _ => hS9) (fun hS9 => ?_)
        replace hS9 := hS9 (by decide)
        try dsimp only at hS9
        try simp only [Act.put, List.setIfInBounds_toArray, List.set_cons_zero, List.set_cons_succ]
        refine wpAnyK_one (i := 22) (by kernel_rfl) rfl (fun K9 hK9 => ?_)
        go_simp
        refine hK9.out _ _ (fun _ => hS9) (fun hS9 => ?_)
        replace hS9 := hS9 (by decide)
        try dsimp only at hS9
        try simp only [Act.put, List.setIfInBounds_toArray, List.set_cons_zero, List.set_cons_succ]
        refine wpAnyK_take (i := 23) (v := ?_) [25, 26, 27] rfl (by kernel_rfl) (fun _ _ _ h => h) (Or.inl ⟨by rfl, ?_⟩) (by assumption) ?_
        rotate_left
        focus (intro w9 hSw; (try dsimp only at hSw); go_simp; (try with_reducible rfl))
        try simp only [Act.put, List.setIfInBounds_toArray, List.set_cons_zero, List.set_cons_succ]
        refine wpAnyK_take (i := 24) (v := ?_) [25, 26, 27] rfl (by kernel_rfl) (fun _ _ _ h => h) (Or.inl ⟨by rfl, ?_⟩) (by assumption) ?_
        rotate_left
        focus (intro w9 hSw; (try dsimp only at hSw); go_simp; (try with_reducible rfl))
        try simp only [Act.put, List.setIfInBounds_toArray, List.set_cons_zero, List.set_cons_succ]
        refine wpAnyK_one (i := 25) (by kernel_rfl) rfl (fun K9 hK9 => ?_)
        (go_simp; go_at_call 19; refine h6.mono ?_; clear h6; rintro e26 w26 ⟨rfl, hb26⟩; have hbb26 := HBB25.out.trans (hb26.mono HBB25.out.size); have HBB26 := Lib.hid hbb26; obtain ⟨hc26, hs26, ho26, hw26, hbl26⟩ := HALL.out _ hbb26; have HC26 := Lib.hid hc26; clear hb26 hbb26 hc26 hs26 ho26 hw26 hbl26)
        refine hK9.out _ _ (fun _ => HC26.out) (fun hS9 => ?_)
        replace hS9 := hS9 (by decide)
        try dsimp only at hS9
        try simp only [Act.put, List.setIfInBounds_toArray, List.set_cons_zero, List.set_cons_succ]
        refine wpAnyK_one (i := 26) (by kernel_rfl) rfl (fun K9 hK9 => ?_)
        go_simp
        refine hK9.out _ _ (fun _ => hS9) (fun hS9 => ?_)
        replace hS9 := hS9 (by decide)
        try dsimp only at hS9
        try simp only [Act.put, List.setIfInBounds_toArray, List.set_cons_zero, List.set_cons_succ]
        refine wpAnyK_one (i := 27) (by kernel_rfl) rfl (fun K9 hK9 => ?_)
        go_simp
        refine hK9.out _ _ (fun h9 => absurd rfl h9) (fun hS9 => ?_)
        try simp only [Act.put, List.setIfInBounds_toArray, List.set_cons_zero, List.set_cons_succ]
        refine wpAnyK_done (by kernel_rfl) ?_ _
        go_wp2_with (fail)
        go_ret
        exact ⟨rfl, (HALL.out _ HBB26.out).2.2.2.2⟩
end Go.Proofs.YtibndaianhlcaaaGreatDoor
namespace Go.Proofs.YtibndaianhlcaaaGreatDoor
open Go.ChangeShapes Go.WideShapes
set_option linter.unusedVariables false
set_option linter.unusedSimpArgs false

namespace Bulk
theorem one_le {H : Type} (d : DataW H) : 1 ≤ Rows.uptoBulk d := by
  cases d with
  | lit l => cases l <;> simp [Rows.uptoBulk]
  | nil => simp [Rows.uptoBulk]
  | ptr d => simp [Rows.uptoBulk]
  | slice elems spare => simp [Rows.uptoBulk]
  | agg parts => simp [Rows.uptoBulk]
  | iface t d => simp [Rows.uptoBulk]
  | map entries => simp [Rows.uptoBulk]
  | held h => simp [Rows.uptoBulk]
theorem part_le {H : Type} {d : DataW H} {l : List (DataW H)} (h : d ∈ l) : Rows.uptoBulk d ≤ Rows.uptoBulkAll l := by
  induction l with
  | nil => cases h
  | cons x r ih =>
    simp only [Rows.uptoBulkAll]
    cases List.mem_cons.1 h with
    | inl e => subst e; omega
    | inr e => have := ih e; omega
theorem length_le {H : Type} (l : List (DataW H)) : l.length ≤ Rows.uptoBulkAll l := by
  induction l with
  | nil => simp [Rows.uptoBulkAll]
  | cons x r ih => have := one_le x; simp only [Rows.uptoBulkAll, List.length_cons]; omega
theorem slice_elems {H : Type} (elems spare : List (DataW H)) : Rows.uptoBulkAll elems + 1 ≤ Rows.uptoBulk (.slice elems spare) := by
  simp only [Rows.uptoBulk]
  omega
theorem agg {H : Type} (l : List (DataW H)) : Rows.uptoBulkAll l + 1 = Rows.uptoBulk (.agg l) := by simp only [Rows.uptoBulk]
theorem string_eq {H : Type} (bytes : List UInt8) : Rows.uptoBulk (DataW.lit (H := H) (.string bytes)) = bytes.length + 1 := by
  simp [Rows.uptoBulk]
theorem bound {H : Type} {l : List (DataW H)} (hk : Rows.uptoSmall H l = true) : Rows.uptoBulkAll l ≤ 1048576 := by
  simpa [Rows.uptoSmall] using hk
theorem slice_spare {H : Type} (elems spare : List (DataW H)) : elems.length + spare.length + 1 ≤ Rows.uptoBulk (.slice elems spare) := by
  have h1 := length_le elems
  have h2 := length_le spare
  simp only [Rows.uptoBulk]
  omega
end Bulk
end Go.Proofs.YtibndaianhlcaaaGreatDoor
