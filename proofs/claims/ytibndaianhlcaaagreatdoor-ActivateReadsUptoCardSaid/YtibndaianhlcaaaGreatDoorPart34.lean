/- The walk of ActivateReads. -/
import Derived.Test.YtibndaianhlcaaaGreatDoorPart25
import Derived.Test.YtibndaianhlcaaaGreatDoorPart33
namespace Go.Proofs.YtibndaianhlcaaaGreatDoor
open Go.RowKit Go.Sort Go.Shelf
set_option linter.unusedVariables false
set_option linter.unusedSimpArgs false

theorem ByteB.thereR {w : World} {g n k : Nat} (h : ByteB w g n) (hk : k < n) : (∃ v, w.cell? ⟨g, k, none⟩ = some v) ∧ w.frozen? ⟨g, k, none⟩ = false := by
  obtain ⟨cur, ⟨lo, hi⟩, h1, h2, h3⟩ := h
  refine ⟨⟨cur[k]'(by omega), ?_⟩, ?_⟩
  · simp [World.cell?, h1, Array.getElem?_eq_getElem (show k < cur.size by omega)]
  · simp only [World.frozen?, h1]
    rcases h3 with h3 | h3
    · injection h3 with e1 e2
      subst e1 e2
      simp
    · simp only at h3
      rw [decide_eq_false (show ¬ lo ≤ k by omega), Bool.false_and]
theorem ObsAt.moreR {w : World} {B B' : Nat} {o : OV} (h : ObsAt w B o) (hB : B ≤ B') : ObsAt w B' o :=
  ⟨⟨h.files.slc.more hB, h.files.len, fun e he => (h.files.data e he).more hB⟩, h.users.more hB, ⟨h.units.slc.more hB, h.units.len, fun u hu => (h.units.req u hu).more hB, fun u hu => (h.units.aft u hu).more hB⟩⟩
theorem xor21_u8 (x y : UInt8) : bits BinOp.xor IntKind.u8 (x.toNat : Int) (y.toNat : Int) = ((x ^^^ y).toNat : Int) := by
  have h : ∀ z : UInt8, BitVec.ofInt 8 (z.toNat : Int) = z.toBitVec := fun z => by
    apply BitVec.eq_of_toNat_eq
    have := z.toNat_lt
    rw [BitVec.toNat_ofInt]
    show ((z.toNat : Int) % (2 ^ 8 : Nat)).toNat = z.toNat
    omega
  show IntKind.u8.wrap ((BitVec.ofInt 8 (x.toNat : Int) ^^^ BitVec.ofInt 8 (y.toNat : Int)).toNat : Int) = _
  rw [h, h]
  have := (x ^^^ y).toNat_lt
  show IntKind.u8.wrap ((x ^^^ y).toNat : Int) = _
  generalize (x ^^^ y).toNat = m at *
  simp [IntKind.wrap, IntKind.bits, IntKind.signed]
  omega
theorem LaidAt.below {w w' : World} {base : Nat} {A : Option Addr} {n c : Nat} {es : List EV} (h : LaidAt w base A n c es) (hb : Below w.heap.size w w') : LaidAt w' base A n c es := by
  have he := h.ents.below hb
  refine ⟨⟨he.slc.more hb.size, he.len, fun e hx => (he.data e hx).more hb.size⟩, fun a ha => ⟨(h.row a ha).1, Nat.lt_of_lt_of_le (h.row a ha).2 hb.size⟩, fun e hx => ?_⟩
  obtain ⟨g, g1, g2, g3, g4, g5⟩ := h.data e hx
  exact ⟨g, g1, g2, Nat.lt_of_lt_of_le g3 hb.size, g4, g5.of (hb.block g g3)⟩
/-- One byte of the last entry is written over. -/
theorem LaidAt.flip {w : World} {base : Nat} {A : Option Addr} {n c : Nat} {fs : List EV} {x : EV} (h : LaidAt w base A n c (fs ++ [x])) (hne : ∀ e ∈ fs, e.A ≠ x.A) {k : Nat} (hk : k < x.n) :
    ∃ g, x.A = some ⟨g, 0, none⟩ ∧ base ≤ g ∧ ∃ b : UInt8, w.cell? ⟨g, k, none⟩ = some (.int .u8 (b.toNat : Int)) ∧ w.frozen? ⟨g, k, none⟩ = false ∧ ∀ b' : UInt8, EntsAt (w.setCell ⟨g, k, none⟩ (.int .u8 (b'.toNat : Int))) w.heap.size A n c (fs ++ [⟨x.path, x.kind, x.data.set k b', x.A, x.n, x.c⟩]) := by
  obtain ⟨g, g1, g2, g3, g4, g5⟩ := h.data x (by simp)
  have hS := h.ents.data x (by simp)
  have hlen : x.data.length = x.n := by have := hS.len; simpa using this
  obtain ⟨b9, off9, e9, hlt9, hc9⟩ := hS.at_ (by omega)
  rw [g1] at e9
  injection e9 with e9
  injection e9 with e9 e10
  subst e9 e10
  have hkd : k < x.data.length := by omega
  refine ⟨g, g1, g2, x.data[k], ?_, (g5.thereR hk).2, fun b' => ⟨?_, by have := h.ents.len; simpa using this, fun e he => ?_⟩⟩
  · have h1 := hc9 k (bv x.data[k]) (by rw [List.getElem?_map, List.getElem?_eq_getElem hkd]; rfl)
    rwa [Nat.zero_add] at h1
  · have hs := h.ents.slc
    have hfe : (fs ++ [(⟨x.path, x.kind, x.data.set k b', x.A, x.n, x.c⟩ : EV)]).flatMap evCells = (fs ++ [x]).flatMap evCells := by
      rw [List.flatMap_append, List.flatMap_append]; rfl
    rw [hfe]
    refine ⟨hs.len, hs.le, hs.cmax, fun hp => ?_⟩
    obtain ⟨b', off', e', hb', hc'⟩ := hs.at_ hp
    refine ⟨b', off', e', hb', fun j v hv => ?_⟩
    have hn := g4 _ e'
    simp only at hn
    rw [World.cell?_of_block (w := w) (a := ⟨b', off' + j, none⟩) (Below.heap_setCell w ⟨g, k, none⟩ _ b' hn)]
    exact hc' j v hv
  · rcases List.mem_append.1 he with he | he
    · have hse := h.ents.data e (List.mem_append.2 (.inl he))
      obtain ⟨g', d1, d2, d3, d4, d5⟩ := h.data e (List.mem_append.2 (.inl he))
      have hgg : g' ≠ g := fun e1 => hne e he (by rw [d1, g1, e1])
      refine ⟨hse.len, hse.le, hse.cmax, fun hp => ?_⟩
      obtain ⟨b', off', e', hb', hc'⟩ := hse.at_ hp
      rw [d1] at e'
      injection e' with e'
      injection e' with e1 e2
      subst e1 e2
      exact ⟨g', 0, d1, hb', fun j v hv => by rw [World.cell?_of_block (w := w) (a := ⟨g', 0 + j, none⟩) (Below.heap_setCell w ⟨g, k, none⟩ _ g' hgg)]; exact hc' j v hv⟩
    · rw [List.mem_singleton.1 he]
      refine ⟨by rw [List.length_map, List.length_set]; show x.data.length = x.n * 1; omega, hS.le, hS.cmax, fun hp => ⟨g, 0, g1, hlt9, fun j v hv => ?_⟩⟩
      simp only at hv
      rw [List.getElem?_map, List.getElem?_set] at hv
      obtain ⟨cur, fz, b1, b2, b3⟩ := g5
      by_cases hjk : k = j
      · subst hjk
        rw [if_pos rfl, if_pos hkd] at hv
        injection hv with hv
        subst hv
        rw [Nat.zero_add]
        simp [World.cell?, World.setCell, Array.getElem?_modify, b1, bv]
        have hkc : k < cur.size := by omega
        simp [Array.getElem?_setIfInBounds, hkc]
      · rw [if_neg hjk] at hv
        have h1 := hc9 j v (by rw [List.getElem?_map]; exact hv)
        rw [← h1]
        simp only [Nat.zero_add]
        simp [World.cell?, World.setCell, Array.getElem?_modify, b1]
        rw [Array.getElem?_setIfInBounds_ne hjk]
theorem laid_small {p : SysP} (h : rightS p = true) {es : List EV} {n : Nat} (hm : es.map EV.ent = laidS p) (hl : es.length = n) : SmallE n es := by
  have hf := right_fits (right_parts h).2.2.2.2.2.2
  rw [← hm] at hf
  refine ⟨fun e he => ?_, by have := hf.1; rw [List.length_map, hl] at this; omega⟩
  obtain ⟨i, hi, rfl⟩ := List.getElem_of_mem he
  have h1 := hf.2 i (by rw [List.length_map]; exact hi)
  rw [List.getElem_map] at h1
  unfold fitsB at h1
  simp only [Bool.and_eq_true] at h1
  have h2 : entryB es[i].ent = true := h1.1
  by_cases h3 : 120 < es[i].ent.path.length ∨ 2048 < es[i].ent.data.length
  · rw [entryB_long h3] at h2; cases h2
  · have q1 : es[i].ent.path = es[i].path := rfl
    have q2 : es[i].ent.data = es[i].data := rfl
    rw [q1, q2] at h3
    omega
theorem SmallE.same {n : Nat} {a b : List EV} (h : SmallE n a) (h1 : b.map EV.ent = a.map EV.ent) : SmallE n b := by
  refine ⟨fun e he => ?_, h.n⟩
  have hm : e.ent ∈ b.map EV.ent := List.mem_map.2 ⟨e, he, rfl⟩
  rw [h1] at hm
  obtain ⟨e0, he0, hee⟩ := List.mem_map.1 hm
  have := h.ents e0 he0
  have p1 : e.path = e0.path := (congrArg Ent.path hee).symm
  have p2 : e.data = e0.data := (congrArg Ent.data hee).symm
  rw [p1, p2]
  exact this
/-- What System answers, its lists spelt out. -/
def SysAns (w : World) (q : SysP) (v : Value) : Ending → World → Prop := fun e w' => ∃ o : OV, e = .returned (.tuple #[.agg #[.slice o.A o.n o.c, .slice o.A2 o.n2 o.c2, .slice o.A3 o.n3 o.c3], v]) ∧ sysO o = q ∧ ObsAt w' w'.heap.size o ∧ Below w.heap.size w w'
theorem SysPost.at_none {w : World} {L : List Ent} {yes no : Value} {e : Ending} {w' : World} (h : SysPost w L yes no e w') (hr : sysR L = none) : SysAns w ⟨[], [], []⟩ no e w' := by
  obtain ⟨o, h1, h2, h3, h4⟩ := h
  rw [hr] at h1 h2
  exact ⟨o, h1, h2, h3, h4⟩
theorem SysPost.at_some {w : World} {L : List Ent} {yes no : Value} {e : Ending} {w' : World} {p : SysP} (h : SysPost w L yes no e w') (hr : sysR L = some p) : SysAns w p yes e w' := by
  obtain ⟨o, h1, h2, h3, h4⟩ := h
  rw [hr] at h1 h2
  exact ⟨o, h1, h2, h3, h4⟩
theorem alike_ans {W : World} {B B' : Nat} {a b : OV} (ha : ObsAt W B a) (hb : ObsAt W B' b) (hB : B ≤ W.heap.size) (hB' : B' ≤ W.heap.size) (h : sysO a = sysO b) :
    Calls Tryz.prog 19 #[.agg #[.slice a.A a.n a.c, .slice a.A2 a.n2 a.c2, .slice a.A3 a.n3 a.c3], .agg #[.slice b.A b.n b.c, .slice b.A2 b.n2 b.c2, .slice b.A3 b.n3 b.c3]] W fun e w' => e = .returned (.bool true) ∧ Below W.heap.size W w' := by
  have h1 := lawAlike21_any (ha.moreR hB) (hb.moreR hB') (Nat.le_refl _)
  have hsm : sameO a b = true := by
    unfold sysO at h
    simp only [SysP.mk.injEq] at h
    exact (sameO_iff a b).2 h
  rw [hsm] at h1
  exact h1
/-- The system's box among what came in. -/
structure BoxRd (W w : World) (s : OV) (A : Option Addr) (n c : Nat) (l : List EV) : Prop where
  s0 : W.cell? ⟨w.heap.size, 0, none⟩ = some (.slice s.A s.n s.c)
  s1 : W.cell? ⟨w.heap.size, 1, none⟩ = some (.slice s.A2 s.n2 s.c2)
  s2 : W.cell? ⟨w.heap.size, 2, none⟩ = some (.slice s.A3 s.n3 s.c3)
  sAt : ObsAt W w.heap.size s
  lAt : EntsAt W w.heap.size A n c l
  bel : Below w.heap.size w W
def boxC (o : OV) : Array Value := #[.slice o.A o.n o.c, .slice o.A2 o.n2 o.c2, .slice o.A3 o.n3 o.c3]
set_option maxRecDepth 100000 in
set_option maxHeartbeats 8000000 in
theorem reads21_any {w : World} {A : Option Addr} {n c : Nat} {l : List EV} {s : OV} (hl : EntsAt w w.heap.size A n c l) (hls : SmallE n l) (hs : ObsAt w w.heap.size s) (hss : SmallO s) (x : Int) (hx0 : -9223372036854775808 ≤ x) (hx1 : x ≤ 9223372036854775807) (y : UInt8) :
    Calls Tryz.prog 7 #[.slice A n c, .agg (ovArr s), .int .i64 x, .int .u8 (y.toNat : Int)] w fun e w' => e = .returned (.bool true) ∧ Below w.heap.size w w' := by
  obtain ⟨W0, hW0⟩ : ∃ W0, W0 = w.alloc (.cells (ovArr s) 26) := ⟨_, rfl⟩
  have hb0 : Below w.heap.size w W0 := by rw [hW0]; exact bel_new _ _
  have hG0 : Blk W0 w.heap.size 26 (ovArr s) := by rw [hW0]; exact Blk.new _ _ _
  have HBX := Lib.hid (fun (W : World) (hW : Below W0.heap.size W0 W) => show BoxRd W w s A n c l from
    have hb := hb0.trans (hW.mono hb0.size)
    have hg := hG0.below hW hG0.lt
    ⟨hg.cell 0, hg.cell 1, hg.cell 2, hs.below hb, hl.below hb, hb⟩)
  have hsh := shown21_any W0
  have HSS := Lib.hid hss
  have HLS := Lib.hid hls
  have HB0 := Lib.hid hb0
  obtain ⟨L, hL⟩ : ∃ L, L = l.map EV.ent := ⟨_, rfl⟩
  have HL := Lib.hid hL
  rw [hW0] at hsh
  unfold ovArr at hsh hW0 ⊢
  have HW0 := Lib.hid hW0
  clear hl hls hs hss hb0 hG0 hL hW0
  rcases hR : sysR L with _ | pp
  · have HR := Lib.hid hR
    clear hR
    go_enter Tryz.func7, Tryz.ntmps7
    go_upto_region 7 with (first
      | (go_at_call 10; refine hsh.mono ?_; clear hsh; rintro e w1 ⟨rfl, hb1⟩; rw [← HW0.out] at hb1; have HB1 := Lib.hid hb1; have hx := HBX.out _ hb1; have hcp := copied21_any hx.lAt hx.bel.size (Nat.le_trans HLS.out.n (by decide)) (fun e he => Nat.le_trans (HLS.out.ents e he).2 (by decide)); clear hb1 hx)
      | (go_at_call 12; refine hcp.mono ?_; clear hcp; rintro e w2 ⟨A2, c2, l2, rfl, ho2, hm2, hb2⟩; have HB2 := Lib.hid (HB1.out.trans (hb2.mono HB1.out.size)); have hsy := (sysAct_any ho2.ents (Nat.le_refl _) (HLS.out.same hm2)).mono (fun e w' h => (show SysAns w2 ⟨[], [], []⟩ (.int .i64 63) e w' from (by rw [hm2, ← HL.out] at h; exact h.at_none HR.out))); clear ho2 hm2 hb2)
      | (go_at_call 29; refine hsy.mono ?_; clear hsy; rintro e w3 ⟨o3, rfl, hs3, ho3, hb3⟩; have hb3' := HB2.out.trans (hb3.mono HB2.out.size); have HB3 := Lib.hid (hb3'.trans ((bel_new w3 (.cells #[.slice o3.A o3.n o3.c, .slice o3.A2 o3.n2 o3.c2, .slice o3.A3 o3.n3 o3.c3] 26)).mono hb3'.size)); have HS3 := Lib.hid hs3; have HO3 := Lib.hid ho3; have hx := HBX.out _ HB3.out; have hrs := (refSys_any hx.lAt hx.bel.size HLS.out).mono (fun e w' h => (show SysAns _ ⟨[], [], []⟩ (.bool false) e w' from (by rw [← HL.out] at h; exact h.at_none HR.out))); clear hs3 ho3 hb3 hb3' hx)
      | (go_at_call 30; refine hrs.mono ?_; clear hrs; rintro e w4 ⟨o4, rfl, hs4, ho4, hb4⟩; have hb4' := HB3.out.trans (hb4.mono HB3.out.size); have HB4 := Lib.hid (hb4'.trans ((bel_new w4 (.cells #[.slice o4.A o4.n o4.c, .slice o4.A2 o4.n2 o4.c2, .slice o4.A3 o4.n3 o4.c3] 26)).mono hb4'.size)); have hk3 := ((Blk.new w3 26 #[.slice o3.A o3.n o3.c, .slice o3.A2 o3.n2 o3.c2, .slice o3.A3 o3.n3 o3.c3]).below hb4 (by simp)).alloc (.cells #[.slice o4.A o4.n o4.c, .slice o4.A2 o4.n2 o4.c2, .slice o4.A3 o4.n3 o4.c3] 26); have k0 := hk3.cell 0; have k1 := hk3.cell 1; have k2 := hk3.cell 2; simp only [List.getElem?_toArray, List.getElem?_cons_zero, List.getElem?_cons_succ] at k0 k1 k2; have hal := alike_ans (W := w4.alloc (.cells #[.slice o4.A o4.n o4.c, .slice o4.A2 o4.n2 o4.c2, .slice o4.A3 o4.n3 o4.c3] 26)) (HO3.out.below (((bel_new w3 _).trans (hb4.mono (by simp))).alloc (by have := hb4.size; simp at this; omega) _)) (ho4.below (bel_new w4 _)) (by have := hb4.size; simp at this; simp; omega) (by simp) (HS3.out.trans hs4.symm); clear hs4 ho4 hb4 hb4' hk3)
      | (go_at_call 19; refine hal.mono ?_; clear hal; rintro e w5 ⟨rfl, hb5⟩; have HB5 := Lib.hid (HB4.out.trans (hb5.mono HB4.out.size)); clear hb5 k0 k1 k2))
    have hx := HBX.out _ HB5.out
    have s0 := hx.s0
    have s1 := hx.s1
    have s2 := hx.s2
    clear hx
    cases hrt : rightS (sysO s) with
    | false =>
      have hen := Entries21_none (HBX.out _ HB5.out).sAt (HBX.out _ HB5.out).bel.size HSS.out hrt
      unfold ovArr NoEnts at hen
      clear hrt
      go_wp2_with (go_at_call 13; refine hen.mono ?_; clear hen; rintro e w6 ⟨rfl, hb6⟩; have HB6 := Lib.hid (HB5.out.trans (hb6.mono HB5.out.size)); clear hb6)
      go_ret
      exact ⟨rfl, (HBX.out _ HB6.out).bel⟩
    | true =>
      have hen := Entries21_right (HBX.out _ HB5.out).sAt (HBX.out _ HB5.out).bel.size HSS.out hrt
      unfold ovArr LaidPost at hen
      have HRT := Lib.hid hrt
      clear hrt
      go_upto_region 13 with (first
        | (go_at_call 13; refine hen.mono ?_; clear hen; rintro e w6 ⟨A6, n6, c6, es6, fs, x6, rfl, hes, hm6, hl6, hd6, hb6⟩; subst hes; obtain rfl : n6 = fs.length + 1 := (by have := hl6.ents.len; simpa using this.symm); have HB6 := Lib.hid (HB5.out.trans (hb6.mono HB5.out.size)); have HSE := Lib.hid (laid_small HRT.out hm6 hl6.ents.len); have HM6 := Lib.hid hm6; have HL6 := Lib.hid hl6; have HD6 := Lib.hid hd6; have hn6 : fs.length + 1 ≤ 1048576 := HSE.out.n; have hne6 : (((fs.length + 1 : Nat) : Int) == 0) = false := (by rw [beq_eq_false_iff_ne]; omega); have hp6 : ((fs.length + 1 : Nat) : Int) - 1 = (fs.length : Int) := (by omega); have HWB := Lib.hid (Nat.le_trans (HBX.out _ HB5.out).bel.size (Nat.le_refl _)); have hsy := (sysAct_any hl6.ents (Nat.le_refl _) HSE.out).mono (fun e w' h => (show SysAns w6 (sysO s) (.int .i64 0) e w' from (by rw [hm6] at h; exact h.at_some (sys_own HRT.out)))); clear hm6 hl6 hd6 hb6)
        | (go_at_call 29; refine hsy.mono ?_; clear hsy; rintro e w7 ⟨o7, rfl, hs7, ho7, hb7⟩; have hb7' := HB6.out.trans (hb7.mono HB6.out.size); have HB7 := Lib.hid (hb7'.trans ((bel_new w7 (.cells #[.slice o7.A o7.n o7.c, .slice o7.A2 o7.n2 o7.c2, .slice o7.A3 o7.n3 o7.c3] 26)).mono hb7'.size)); have HL7 := Lib.hid ((HL6.out.below hb7).below (bel_new w7 (.cells #[.slice o7.A o7.n o7.c, .slice o7.A2 o7.n2 o7.c2, .slice o7.A3 o7.n3 o7.c3] 26))); have hx := HBX.out _ HB7.out; have k0 := hx.s0; have k1 := hx.s1; have k2 := hx.s2; have hal := alike_ans (ho7.below (bel_new w7 _)) hx.sAt (by simp) hx.bel.size hs7; clear hs7 ho7 hb7 hb7' hx)
        | (go_at_call 19; refine hal.mono ?_; clear hal; rintro e w8 ⟨rfl, hb8⟩; have HB8 := Lib.hid (HB7.out.trans (hb8.mono HB7.out.size)); have HL8 := Lib.hid (HL7.out.below hb8); obtain ⟨b, off, hA6, hbB, hlf, d0, d1, d2, hSd⟩ := HL8.out.ents.at_ (k := fs.length) (by omega); subst hA6; rw [show (fs ++ [x6])[fs.length] = x6 by simp] at d0 d1 d2 hSd; clear hb8 k0 k1 k2 s0 s1 s2))
      have hx6n : x6.data.length = x6.n := by have := hSd.len; simpa using this
      have htx : x6.data = textS (sysO s) := by
        have h1 := HM6.out
        rw [List.map_append] at h1
        unfold laidS at h1
        have h2 := (List.append_inj' h1 rfl).2
        simp only [List.map_cons, List.map_nil, List.cons.injEq, and_true] at h2
        exact congrArg Ent.data h2
      have hpos : 0 < x6.n := by rw [← hx6n, htx]; unfold textS; simp; omega
      have hn0 : ¬ x6.n = 0 := by omega
      have hn62 : x6.n ≤ 9223372036854775807 := by have h1 := hSd.le; have h2 := hSd.cmax; unfold maxLen at h2; omega
      have HX6 := Lib.hid (And.intro hx6n htx)
      clear hx6n htx hSd d0 d1 d2
      by_cases hneg : x < 0
      · obtain ⟨q, hq⟩ : ∃ q : Nat, -(x + 1) = (q : Int) := ⟨(-(x + 1)).toNat, by omega⟩
        have i1 : IntKind.i64.wrap (x + 1) = x + 1 := IntWalk.i64_in _ (by omega)
        have i2 : IntKind.i64.wrap (-(x + 1)) = -(x + 1) := IntWalk.i64_in _ (by omega)
        have HQE := Lib.hid hq
        clear hq
        go_upto_region 15 with (fail)
        rw [HQE.out]
        clear i1 i2 hneg hx0 hx1
        obtain ⟨j, hj⟩ : ∃ j, j = q % x6.n := ⟨_, rfl⟩
        have hjn : j < x6.n := by rw [hj]; exact Nat.mod_lt _ hpos
        have hjt : (q : Int).tmod (x6.n : Int) = (j : Int) := by rw [Int.tmod_eq_emod_of_nonneg (by omega), hj]; rfl
        have hjq : (q : Int) % (x6.n : Int) = (j : Int) := by rw [hj]; rfl
        obtain ⟨g, hxA, hgb, x0, hxc, hfz, hfl⟩ := HL8.out.flip HD6.out hjn
        have hxor := xor21_u8 x0 y
        have HEN := Lib.hid (hfl (x0 ^^^ y))
        have HGB := Lib.hid hgb
        rw [hxA]
        generalize x0 ^^^ y = x1 at *
        have HXA := Lib.hid hxA
        obtain ⟨w9, hw9⟩ : ∃ w9, w9 = (w8.setCell ⟨g, j, none⟩ (.int .u8 (x1.toNat : Int))).drew := ⟨_, rfl⟩
        have HW9 := Lib.hid hw9
        have hgw : w.heap.size ≤ g := Nat.le_trans (HBX.out _ HB5.out).bel.size hgb
        have hg0 : W0.heap.size ≤ g := Nat.le_trans HB5.out.size hgb
        have HB9 := Lib.hid (show Below W0.heap.size W0 w9 by rw [hw9]; exact (HB8.out.setCell (p := ⟨g, j, none⟩) hg0 _).drew)
        have hz9 : w9.heap.size = w8.heap.size := by rw [hw9]; simp
        have HE9 : Hid (EntsAt w9 w9.heap.size (some ⟨b, off, none⟩) (fs.length + 1) c6 (fs ++ [(⟨x6.path, x6.kind, x6.data.set j x1, x6.A, x6.n, x6.c⟩ : EV)])) := by
          rw [hz9, hw9]
          exact HEN.out.below (Below.refl _ _).drew
        have HS9 := Lib.hid (show SmallE (fs.length + 1) (fs ++ [(⟨x6.path, x6.kind, x6.data.set j x1, x6.A, x6.n, x6.c⟩ : EV)]) from ⟨fun e he => by
          rcases List.mem_append.1 he with he | he
          · exact HSE.out.ents e (List.mem_append.2 (.inl he))
          · rw [List.mem_singleton.1 he]
            have := HSE.out.ents x6 (by simp)
            exact ⟨this.1, by simp only [List.length_set]; exact this.2⟩, HSE.out.n⟩)
        clear hfl hgb hxA hj hw9 hgw hg0 hz9
        go_region
        all_goals rw [← HW9.out]
        all_goals clear hxc hfz hxor hjt hjq hjn
        rcases hR2 : sysR ((fs ++ [(⟨x6.path, x6.kind, x6.data.set j x1, x6.A, x6.n, x6.c⟩ : EV)]).map EV.ent) with _ | p2
        · have HR2 := Lib.hid hR2
          have hsy := (sysAct_any HE9.out (Nat.le_refl _) HS9.out).mono (fun e w' h => (show SysAns w9 ⟨[], [], []⟩ (.int .i64 63) e w' from h.at_none HR2.out))
          clear hR2
          go_wp2_with (first
            | (go_at_call 29; refine hsy.mono ?_; clear hsy; rintro e w10 ⟨o10, rfl, hs10, ho10, hb10⟩; have hb10' := HB9.out.trans (hb10.mono HB9.out.size); have HB10 := Lib.hid (hb10'.trans ((bel_new w10 (.cells #[.slice o10.A o10.n o10.c, .slice o10.A2 o10.n2 o10.c2, .slice o10.A3 o10.n3 o10.c3] 26)).mono hb10'.size)); have HS10 := Lib.hid hs10; have HO10 := Lib.hid ho10; have hrs := (refSys_any (HE9.out.below (hb10.trans ((bel_new w10 (.cells #[.slice o10.A o10.n o10.c, .slice o10.A2 o10.n2 o10.c2, .slice o10.A3 o10.n3 o10.c3] 26)).mono hb10.size))) (Nat.le_trans hb10.size (by simp)) HS9.out).mono (fun e w' h => (show SysAns _ ⟨[], [], []⟩ (.bool false) e w' from h.at_none HR2.out)); clear hs10 ho10 hb10 hb10')
            | (go_at_call 30; refine hrs.mono ?_; clear hrs; rintro e w11 ⟨o11, rfl, hs11, ho11, hb11⟩; have hb11' := HB10.out.trans (hb11.mono HB10.out.size); have HB11 := Lib.hid (hb11'.trans ((bel_new w11 (.cells #[.slice o11.A o11.n o11.c, .slice o11.A2 o11.n2 o11.c2, .slice o11.A3 o11.n3 o11.c3] 26)).mono hb11'.size)); have hk3 := ((Blk.new w10 26 #[.slice o10.A o10.n o10.c, .slice o10.A2 o10.n2 o10.c2, .slice o10.A3 o10.n3 o10.c3]).below hb11 (by simp)).alloc (.cells #[.slice o11.A o11.n o11.c, .slice o11.A2 o11.n2 o11.c2, .slice o11.A3 o11.n3 o11.c3] 26); have k0 := hk3.cell 0; have k1 := hk3.cell 1; have k2 := hk3.cell 2; simp only [List.getElem?_toArray, List.getElem?_cons_zero, List.getElem?_cons_succ] at k0 k1 k2; have hal := alike_ans (W := w11.alloc (.cells #[.slice o11.A o11.n o11.c, .slice o11.A2 o11.n2 o11.c2, .slice o11.A3 o11.n3 o11.c3] 26)) (HO10.out.below (((bel_new w10 _).trans (hb11.mono (by simp))).alloc (by have := hb11.size; simp at this; omega) _)) (ho11.below (bel_new w11 _)) (by have := hb11.size; simp at this; simp; omega) (by simp) (HS10.out.trans hs11.symm); clear hs11 ho11 hb11 hb11' hk3)
            | (go_at_call 19; refine hal.mono ?_; clear hal; rintro e w12 ⟨rfl, hb12⟩; have HB12 := Lib.hid (HB11.out.trans (hb12.mono HB11.out.size)); clear hb12 k0 k1 k2))
          go_ret
          exact ⟨rfl, (HBX.out _ HB12.out).bel⟩
        · have HR2 := Lib.hid hR2
          have hsy := (sysAct_any HE9.out (Nat.le_refl _) HS9.out).mono (fun e w' h => (show SysAns w9 p2 (.int .i64 0) e w' from h.at_some HR2.out))
          clear hR2
          go_wp2_with (first
            | (go_at_call 29; refine hsy.mono ?_; clear hsy; rintro e w10 ⟨o10, rfl, hs10, ho10, hb10⟩; have hb10' := HB9.out.trans (hb10.mono HB9.out.size); have HB10 := Lib.hid (hb10'.trans ((bel_new w10 (.cells #[.slice o10.A o10.n o10.c, .slice o10.A2 o10.n2 o10.c2, .slice o10.A3 o10.n3 o10.c3] 26)).mono hb10'.size)); have HS10 := Lib.hid hs10; have HO10 := Lib.hid ho10; have hrs := (refSys_any (HE9.out.below (hb10.trans ((bel_new w10 (.cells #[.slice o10.A o10.n o10.c, .slice o10.A2 o10.n2 o10.c2, .slice o10.A3 o10.n3 o10.c3] 26)).mono hb10.size))) (Nat.le_trans hb10.size (by simp)) HS9.out).mono (fun e w' h => (show SysAns _ p2 (.bool true) e w' from h.at_some HR2.out)); clear hs10 ho10 hb10 hb10')
            | (go_at_call 30; refine hrs.mono ?_; clear hrs; rintro e w11 ⟨o11, rfl, hs11, ho11, hb11⟩; have hb11' := HB10.out.trans (hb11.mono HB10.out.size); have HB11 := Lib.hid (hb11'.trans ((bel_new w11 (.cells #[.slice o11.A o11.n o11.c, .slice o11.A2 o11.n2 o11.c2, .slice o11.A3 o11.n3 o11.c3] 26)).mono hb11'.size)); have hk3 := ((Blk.new w10 26 #[.slice o10.A o10.n o10.c, .slice o10.A2 o10.n2 o10.c2, .slice o10.A3 o10.n3 o10.c3]).below hb11 (by simp)).alloc (.cells #[.slice o11.A o11.n o11.c, .slice o11.A2 o11.n2 o11.c2, .slice o11.A3 o11.n3 o11.c3] 26); have k0 := hk3.cell 0; have k1 := hk3.cell 1; have k2 := hk3.cell 2; simp only [List.getElem?_toArray, List.getElem?_cons_zero, List.getElem?_cons_succ] at k0 k1 k2; have hal := alike_ans (W := w11.alloc (.cells #[.slice o11.A o11.n o11.c, .slice o11.A2 o11.n2 o11.c2, .slice o11.A3 o11.n3 o11.c3] 26)) (HO10.out.below (((bel_new w10 _).trans (hb11.mono (by simp))).alloc (by have := hb11.size; simp at this; omega) _)) (ho11.below (bel_new w11 _)) (by have := hb11.size; simp at this; simp; omega) (by simp) (HS10.out.trans hs11.symm); clear hs11 ho11 hb11 hb11' hk3)
            | (go_at_call 19; refine hal.mono ?_; clear hal; rintro e w12 ⟨rfl, hb12⟩; have HB12 := Lib.hid (HB11.out.trans (hb12.mono HB11.out.size)); clear hb12 k0 k1 k2))
          go_ret
          exact ⟨rfl, (HBX.out _ HB12.out).bel⟩
      · obtain ⟨q, hq⟩ : ∃ q : Nat, x = (q : Int) := ⟨x.toNat, by omega⟩
        subst hq
        go_upto_region 15 with (fail)
        clear hneg hx0 hx1
        obtain ⟨j, hj⟩ : ∃ j, j = q % x6.n := ⟨_, rfl⟩
        have hjn : j < x6.n := by rw [hj]; exact Nat.mod_lt _ hpos
        have hjt : (q : Int).tmod (x6.n : Int) = (j : Int) := by rw [Int.tmod_eq_emod_of_nonneg (by omega), hj]; rfl
        have hjq : (q : Int) % (x6.n : Int) = (j : Int) := by rw [hj]; rfl
        obtain ⟨g, hxA, hgb, x0, hxc, hfz, hfl⟩ := HL8.out.flip HD6.out hjn
        have hxor := xor21_u8 x0 y
        have HEN := Lib.hid (hfl (x0 ^^^ y))
        have HGB := Lib.hid hgb
        rw [hxA]
        generalize x0 ^^^ y = x1 at *
        have HXA := Lib.hid hxA
        obtain ⟨w9, hw9⟩ : ∃ w9, w9 = (w8.setCell ⟨g, j, none⟩ (.int .u8 (x1.toNat : Int))).drew := ⟨_, rfl⟩
        have HW9 := Lib.hid hw9
        have hgw : w.heap.size ≤ g := Nat.le_trans (HBX.out _ HB5.out).bel.size hgb
        have hg0 : W0.heap.size ≤ g := Nat.le_trans HB5.out.size hgb
        have HB9 := Lib.hid (show Below W0.heap.size W0 w9 by rw [hw9]; exact (HB8.out.setCell (p := ⟨g, j, none⟩) hg0 _).drew)
        have hz9 : w9.heap.size = w8.heap.size := by rw [hw9]; simp
        have HE9 : Hid (EntsAt w9 w9.heap.size (some ⟨b, off, none⟩) (fs.length + 1) c6 (fs ++ [(⟨x6.path, x6.kind, x6.data.set j x1, x6.A, x6.n, x6.c⟩ : EV)])) := by
          rw [hz9, hw9]
          exact HEN.out.below (Below.refl _ _).drew
        have HS9 := Lib.hid (show SmallE (fs.length + 1) (fs ++ [(⟨x6.path, x6.kind, x6.data.set j x1, x6.A, x6.n, x6.c⟩ : EV)]) from ⟨fun e he => by
          rcases List.mem_append.1 he with he | he
          · exact HSE.out.ents e (List.mem_append.2 (.inl he))
          · rw [List.mem_singleton.1 he]
            have := HSE.out.ents x6 (by simp)
            exact ⟨this.1, by simp only [List.length_set]; exact this.2⟩, HSE.out.n⟩)
        clear hfl hgb hxA hj hw9 hgw hg0 hz9
        go_region
        all_goals rw [← HW9.out]
        all_goals clear hxc hfz hxor hjt hjq hjn
        rcases hR2 : sysR ((fs ++ [(⟨x6.path, x6.kind, x6.data.set j x1, x6.A, x6.n, x6.c⟩ : EV)]).map EV.ent) with _ | p2
        · have HR2 := Lib.hid hR2
          have hsy := (sysAct_any HE9.out (Nat.le_refl _) HS9.out).mono (fun e w' h => (show SysAns w9 ⟨[], [], []⟩ (.int .i64 63) e w' from h.at_none HR2.out))
          clear hR2
          go_wp2_with (first
            | (go_at_call 29; refine hsy.mono ?_; clear hsy; rintro e w10 ⟨o10, rfl, hs10, ho10, hb10⟩; have hb10' := HB9.out.trans (hb10.mono HB9.out.size); have HB10 := Lib.hid (hb10'.trans ((bel_new w10 (.cells #[.slice o10.A o10.n o10.c, .slice o10.A2 o10.n2 o10.c2, .slice o10.A3 o10.n3 o10.c3] 26)).mono hb10'.size)); have HS10 := Lib.hid hs10; have HO10 := Lib.hid ho10; have hrs := (refSys_any (HE9.out.below (hb10.trans ((bel_new w10 (.cells #[.slice o10.A o10.n o10.c, .slice o10.A2 o10.n2 o10.c2, .slice o10.A3 o10.n3 o10.c3] 26)).mono hb10.size))) (Nat.le_trans hb10.size (by simp)) HS9.out).mono (fun e w' h => (show SysAns _ ⟨[], [], []⟩ (.bool false) e w' from h.at_none HR2.out)); clear hs10 ho10 hb10 hb10')
            | (go_at_call 30; refine hrs.mono ?_; clear hrs; rintro e w11 ⟨o11, rfl, hs11, ho11, hb11⟩; have hb11' := HB10.out.trans (hb11.mono HB10.out.size); have HB11 := Lib.hid (hb11'.trans ((bel_new w11 (.cells #[.slice o11.A o11.n o11.c, .slice o11.A2 o11.n2 o11.c2, .slice o11.A3 o11.n3 o11.c3] 26)).mono hb11'.size)); have hk3 := ((Blk.new w10 26 #[.slice o10.A o10.n o10.c, .slice o10.A2 o10.n2 o10.c2, .slice o10.A3 o10.n3 o10.c3]).below hb11 (by simp)).alloc (.cells #[.slice o11.A o11.n o11.c, .slice o11.A2 o11.n2 o11.c2, .slice o11.A3 o11.n3 o11.c3] 26); have k0 := hk3.cell 0; have k1 := hk3.cell 1; have k2 := hk3.cell 2; simp only [List.getElem?_toArray, List.getElem?_cons_zero, List.getElem?_cons_succ] at k0 k1 k2; have hal := alike_ans (W := w11.alloc (.cells #[.slice o11.A o11.n o11.c, .slice o11.A2 o11.n2 o11.c2, .slice o11.A3 o11.n3 o11.c3] 26)) (HO10.out.below (((bel_new w10 _).trans (hb11.mono (by simp))).alloc (by have := hb11.size; simp at this; omega) _)) (ho11.below (bel_new w11 _)) (by have := hb11.size; simp at this; simp; omega) (by simp) (HS10.out.trans hs11.symm); clear hs11 ho11 hb11 hb11' hk3)
            | (go_at_call 19; refine hal.mono ?_; clear hal; rintro e w12 ⟨rfl, hb12⟩; have HB12 := Lib.hid (HB11.out.trans (hb12.mono HB11.out.size)); clear hb12 k0 k1 k2))
          go_ret
          exact ⟨rfl, (HBX.out _ HB12.out).bel⟩
        · have HR2 := Lib.hid hR2
          have hsy := (sysAct_any HE9.out (Nat.le_refl _) HS9.out).mono (fun e w' h => (show SysAns w9 p2 (.int .i64 0) e w' from h.at_some HR2.out))
          clear hR2
          go_wp2_with (first
            | (go_at_call 29; refine hsy.mono ?_; clear hsy; rintro e w10 ⟨o10, rfl, hs10, ho10, hb10⟩; have hb10' := HB9.out.trans (hb10.mono HB9.out.size); have HB10 := Lib.hid (hb10'.trans ((bel_new w10 (.cells #[.slice o10.A o10.n o10.c, .slice o10.A2 o10.n2 o10.c2, .slice o10.A3 o10.n3 o10.c3] 26)).mono hb10'.size)); have HS10 := Lib.hid hs10; have HO10 := Lib.hid ho10; have hrs := (refSys_any (HE9.out.below (hb10.trans ((bel_new w10 (.cells #[.slice o10.A o10.n o10.c, .slice o10.A2 o10.n2 o10.c2, .slice o10.A3 o10.n3 o10.c3] 26)).mono hb10.size))) (Nat.le_trans hb10.size (by simp)) HS9.out).mono (fun e w' h => (show SysAns _ p2 (.bool true) e w' from h.at_some HR2.out)); clear hs10 ho10 hb10 hb10')
            | (go_at_call 30; refine hrs.mono ?_; clear hrs; rintro e w11 ⟨o11, rfl, hs11, ho11, hb11⟩; have hb11' := HB10.out.trans (hb11.mono HB10.out.size); have HB11 := Lib.hid (hb11'.trans ((bel_new w11 (.cells #[.slice o11.A o11.n o11.c, .slice o11.A2 o11.n2 o11.c2, .slice o11.A3 o11.n3 o11.c3] 26)).mono hb11'.size)); have hk3 := ((Blk.new w10 26 #[.slice o10.A o10.n o10.c, .slice o10.A2 o10.n2 o10.c2, .slice o10.A3 o10.n3 o10.c3]).below hb11 (by simp)).alloc (.cells #[.slice o11.A o11.n o11.c, .slice o11.A2 o11.n2 o11.c2, .slice o11.A3 o11.n3 o11.c3] 26); have k0 := hk3.cell 0; have k1 := hk3.cell 1; have k2 := hk3.cell 2; simp only [List.getElem?_toArray, List.getElem?_cons_zero, List.getElem?_cons_succ] at k0 k1 k2; have hal := alike_ans (W := w11.alloc (.cells #[.slice o11.A o11.n o11.c, .slice o11.A2 o11.n2 o11.c2, .slice o11.A3 o11.n3 o11.c3] 26)) (HO10.out.below (((bel_new w10 _).trans (hb11.mono (by simp))).alloc (by have := hb11.size; simp at this; omega) _)) (ho11.below (bel_new w11 _)) (by have := hb11.size; simp at this; simp; omega) (by simp) (HS10.out.trans hs11.symm); clear hs11 ho11 hb11 hb11' hk3)
            | (go_at_call 19; refine hal.mono ?_; clear hal; rintro e w12 ⟨rfl, hb12⟩; have HB12 := Lib.hid (HB11.out.trans (hb12.mono HB11.out.size)); clear hb12 k0 k1 k2))
          go_ret
          exact ⟨rfl, (HBX.out _ HB12.out).bel⟩

  · have HR := Lib.hid hR
    clear hR
    go_enter Tryz.func7, Tryz.ntmps7
    go_upto_region 7 with (first
      | (go_at_call 10; refine hsh.mono ?_; clear hsh; rintro e w1 ⟨rfl, hb1⟩; rw [← HW0.out] at hb1; have HB1 := Lib.hid hb1; have hx := HBX.out _ hb1; have hcp := copied21_any hx.lAt hx.bel.size (Nat.le_trans HLS.out.n (by decide)) (fun e he => Nat.le_trans (HLS.out.ents e he).2 (by decide)); clear hb1 hx)
      | (go_at_call 12; refine hcp.mono ?_; clear hcp; rintro e w2 ⟨A2, c2, l2, rfl, ho2, hm2, hb2⟩; have HB2 := Lib.hid (HB1.out.trans (hb2.mono HB1.out.size)); have hsy := (sysAct_any ho2.ents (Nat.le_refl _) (HLS.out.same hm2)).mono (fun e w' h => (show SysAns w2 pp (.int .i64 0) e w' from (by rw [hm2, ← HL.out] at h; exact h.at_some HR.out))); clear ho2 hm2 hb2)
      | (go_at_call 29; refine hsy.mono ?_; clear hsy; rintro e w3 ⟨o3, rfl, hs3, ho3, hb3⟩; have hb3' := HB2.out.trans (hb3.mono HB2.out.size); have HB3 := Lib.hid (hb3'.trans ((bel_new w3 (.cells #[.slice o3.A o3.n o3.c, .slice o3.A2 o3.n2 o3.c2, .slice o3.A3 o3.n3 o3.c3] 26)).mono hb3'.size)); have HS3 := Lib.hid hs3; have HO3 := Lib.hid ho3; have hx := HBX.out _ HB3.out; have hrs := (refSys_any hx.lAt hx.bel.size HLS.out).mono (fun e w' h => (show SysAns _ pp (.bool true) e w' from (by rw [← HL.out] at h; exact h.at_some HR.out))); clear hs3 ho3 hb3 hb3' hx)
      | (go_at_call 30; refine hrs.mono ?_; clear hrs; rintro e w4 ⟨o4, rfl, hs4, ho4, hb4⟩; have hb4' := HB3.out.trans (hb4.mono HB3.out.size); have HB4 := Lib.hid (hb4'.trans ((bel_new w4 (.cells #[.slice o4.A o4.n o4.c, .slice o4.A2 o4.n2 o4.c2, .slice o4.A3 o4.n3 o4.c3] 26)).mono hb4'.size)); have hk3 := ((Blk.new w3 26 #[.slice o3.A o3.n o3.c, .slice o3.A2 o3.n2 o3.c2, .slice o3.A3 o3.n3 o3.c3]).below hb4 (by simp)).alloc (.cells #[.slice o4.A o4.n o4.c, .slice o4.A2 o4.n2 o4.c2, .slice o4.A3 o4.n3 o4.c3] 26); have k0 := hk3.cell 0; have k1 := hk3.cell 1; have k2 := hk3.cell 2; simp only [List.getElem?_toArray, List.getElem?_cons_zero, List.getElem?_cons_succ] at k0 k1 k2; have hal := alike_ans (W := w4.alloc (.cells #[.slice o4.A o4.n o4.c, .slice o4.A2 o4.n2 o4.c2, .slice o4.A3 o4.n3 o4.c3] 26)) (HO3.out.below (((bel_new w3 _).trans (hb4.mono (by simp))).alloc (by have := hb4.size; simp at this; omega) _)) (ho4.below (bel_new w4 _)) (by have := hb4.size; simp at this; simp; omega) (by simp) (HS3.out.trans hs4.symm); clear hs4 ho4 hb4 hb4' hk3)
      | (go_at_call 19; refine hal.mono ?_; clear hal; rintro e w5 ⟨rfl, hb5⟩; have HB5 := Lib.hid (HB4.out.trans (hb5.mono HB4.out.size)); clear hb5 k0 k1 k2))
    have hx := HBX.out _ HB5.out
    have s0 := hx.s0
    have s1 := hx.s1
    have s2 := hx.s2
    clear hx
    cases hrt : rightS (sysO s) with
    | false =>
      have hen := Entries21_none (HBX.out _ HB5.out).sAt (HBX.out _ HB5.out).bel.size HSS.out hrt
      unfold ovArr NoEnts at hen
      clear hrt
      go_wp2_with (go_at_call 13; refine hen.mono ?_; clear hen; rintro e w6 ⟨rfl, hb6⟩; have HB6 := Lib.hid (HB5.out.trans (hb6.mono HB5.out.size)); clear hb6)
      go_ret
      exact ⟨rfl, (HBX.out _ HB6.out).bel⟩
    | true =>
      have hen := Entries21_right (HBX.out _ HB5.out).sAt (HBX.out _ HB5.out).bel.size HSS.out hrt
      unfold ovArr LaidPost at hen
      have HRT := Lib.hid hrt
      clear hrt
      go_upto_region 13 with (first
        | (go_at_call 13; refine hen.mono ?_; clear hen; rintro e w6 ⟨A6, n6, c6, es6, fs, x6, rfl, hes, hm6, hl6, hd6, hb6⟩; subst hes; obtain rfl : n6 = fs.length + 1 := (by have := hl6.ents.len; simpa using this.symm); have HB6 := Lib.hid (HB5.out.trans (hb6.mono HB5.out.size)); have HSE := Lib.hid (laid_small HRT.out hm6 hl6.ents.len); have HM6 := Lib.hid hm6; have HL6 := Lib.hid hl6; have HD6 := Lib.hid hd6; have hn6 : fs.length + 1 ≤ 1048576 := HSE.out.n; have hne6 : (((fs.length + 1 : Nat) : Int) == 0) = false := (by rw [beq_eq_false_iff_ne]; omega); have hp6 : ((fs.length + 1 : Nat) : Int) - 1 = (fs.length : Int) := (by omega); have HWB := Lib.hid (Nat.le_trans (HBX.out _ HB5.out).bel.size (Nat.le_refl _)); have hsy := (sysAct_any hl6.ents (Nat.le_refl _) HSE.out).mono (fun e w' h => (show SysAns w6 (sysO s) (.int .i64 0) e w' from (by rw [hm6] at h; exact h.at_some (sys_own HRT.out)))); clear hm6 hl6 hd6 hb6)
        | (go_at_call 29; refine hsy.mono ?_; clear hsy; rintro e w7 ⟨o7, rfl, hs7, ho7, hb7⟩; have hb7' := HB6.out.trans (hb7.mono HB6.out.size); have HB7 := Lib.hid (hb7'.trans ((bel_new w7 (.cells #[.slice o7.A o7.n o7.c, .slice o7.A2 o7.n2 o7.c2, .slice o7.A3 o7.n3 o7.c3] 26)).mono hb7'.size)); have HL7 := Lib.hid ((HL6.out.below hb7).below (bel_new w7 (.cells #[.slice o7.A o7.n o7.c, .slice o7.A2 o7.n2 o7.c2, .slice o7.A3 o7.n3 o7.c3] 26))); have hx := HBX.out _ HB7.out; have k0 := hx.s0; have k1 := hx.s1; have k2 := hx.s2; have hal := alike_ans (ho7.below (bel_new w7 _)) hx.sAt (by simp) hx.bel.size hs7; clear hs7 ho7 hb7 hb7' hx)
        | (go_at_call 19; refine hal.mono ?_; clear hal; rintro e w8 ⟨rfl, hb8⟩; have HB8 := Lib.hid (HB7.out.trans (hb8.mono HB7.out.size)); have HL8 := Lib.hid (HL7.out.below hb8); obtain ⟨b, off, hA6, hbB, hlf, d0, d1, d2, hSd⟩ := HL8.out.ents.at_ (k := fs.length) (by omega); subst hA6; rw [show (fs ++ [x6])[fs.length] = x6 by simp] at d0 d1 d2 hSd; clear hb8 k0 k1 k2 s0 s1 s2))
      have hx6n : x6.data.length = x6.n := by have := hSd.len; simpa using this
      have htx : x6.data = textS (sysO s) := by
        have h1 := HM6.out
        rw [List.map_append] at h1
        unfold laidS at h1
        have h2 := (List.append_inj' h1 rfl).2
        simp only [List.map_cons, List.map_nil, List.cons.injEq, and_true] at h2
        exact congrArg Ent.data h2
      have hpos : 0 < x6.n := by rw [← hx6n, htx]; unfold textS; simp; omega
      have hn0 : ¬ x6.n = 0 := by omega
      have hn62 : x6.n ≤ 9223372036854775807 := by have h1 := hSd.le; have h2 := hSd.cmax; unfold maxLen at h2; omega
      have HX6 := Lib.hid (And.intro hx6n htx)
      clear hx6n htx hSd d0 d1 d2
      by_cases hneg : x < 0
      · obtain ⟨q, hq⟩ : ∃ q : Nat, -(x + 1) = (q : Int) := ⟨(-(x + 1)).toNat, by omega⟩
        have i1 : IntKind.i64.wrap (x + 1) = x + 1 := IntWalk.i64_in _ (by omega)
        have i2 : IntKind.i64.wrap (-(x + 1)) = -(x + 1) := IntWalk.i64_in _ (by omega)
        have HQE := Lib.hid hq
        clear hq
        go_upto_region 15 with (fail)
        rw [HQE.out]
        clear i1 i2 hneg hx0 hx1
        obtain ⟨j, hj⟩ : ∃ j, j = q % x6.n := ⟨_, rfl⟩
        have hjn : j < x6.n := by rw [hj]; exact Nat.mod_lt _ hpos
        have hjt : (q : Int).tmod (x6.n : Int) = (j : Int) := by rw [Int.tmod_eq_emod_of_nonneg (by omega), hj]; rfl
        have hjq : (q : Int) % (x6.n : Int) = (j : Int) := by rw [hj]; rfl
        obtain ⟨g, hxA, hgb, x0, hxc, hfz, hfl⟩ := HL8.out.flip HD6.out hjn
        have hxor := xor21_u8 x0 y
        have HEN := Lib.hid (hfl (x0 ^^^ y))
        have HGB := Lib.hid hgb
        rw [hxA]
        generalize x0 ^^^ y = x1 at *
        have HXA := Lib.hid hxA
        obtain ⟨w9, hw9⟩ : ∃ w9, w9 = (w8.setCell ⟨g, j, none⟩ (.int .u8 (x1.toNat : Int))).drew := ⟨_, rfl⟩
        have HW9 := Lib.hid hw9
        have hgw : w.heap.size ≤ g := Nat.le_trans (HBX.out _ HB5.out).bel.size hgb
        have hg0 : W0.heap.size ≤ g := Nat.le_trans HB5.out.size hgb
        have HB9 := Lib.hid (show Below W0.heap.size W0 w9 by rw [hw9]; exact (HB8.out.setCell (p := ⟨g, j, none⟩) hg0 _).drew)
        have hz9 : w9.heap.size = w8.heap.size := by rw [hw9]; simp
        have HE9 : Hid (EntsAt w9 w9.heap.size (some ⟨b, off, none⟩) (fs.length + 1) c6 (fs ++ [(⟨x6.path, x6.kind, x6.data.set j x1, x6.A, x6.n, x6.c⟩ : EV)])) := by
          rw [hz9, hw9]
          exact HEN.out.below (Below.refl _ _).drew
        have HS9 := Lib.hid (show SmallE (fs.length + 1) (fs ++ [(⟨x6.path, x6.kind, x6.data.set j x1, x6.A, x6.n, x6.c⟩ : EV)]) from ⟨fun e he => by
          rcases List.mem_append.1 he with he | he
          · exact HSE.out.ents e (List.mem_append.2 (.inl he))
          · rw [List.mem_singleton.1 he]
            have := HSE.out.ents x6 (by simp)
            exact ⟨this.1, by simp only [List.length_set]; exact this.2⟩, HSE.out.n⟩)
        clear hfl hgb hxA hj hw9 hgw hg0 hz9
        go_region
        all_goals rw [← HW9.out]
        all_goals clear hxc hfz hxor hjt hjq hjn
        rcases hR2 : sysR ((fs ++ [(⟨x6.path, x6.kind, x6.data.set j x1, x6.A, x6.n, x6.c⟩ : EV)]).map EV.ent) with _ | p2
        · have HR2 := Lib.hid hR2
          have hsy := (sysAct_any HE9.out (Nat.le_refl _) HS9.out).mono (fun e w' h => (show SysAns w9 ⟨[], [], []⟩ (.int .i64 63) e w' from h.at_none HR2.out))
          clear hR2
          go_wp2_with (first
            | (go_at_call 29; refine hsy.mono ?_; clear hsy; rintro e w10 ⟨o10, rfl, hs10, ho10, hb10⟩; have hb10' := HB9.out.trans (hb10.mono HB9.out.size); have HB10 := Lib.hid (hb10'.trans ((bel_new w10 (.cells #[.slice o10.A o10.n o10.c, .slice o10.A2 o10.n2 o10.c2, .slice o10.A3 o10.n3 o10.c3] 26)).mono hb10'.size)); have HS10 := Lib.hid hs10; have HO10 := Lib.hid ho10; have hrs := (refSys_any (HE9.out.below (hb10.trans ((bel_new w10 (.cells #[.slice o10.A o10.n o10.c, .slice o10.A2 o10.n2 o10.c2, .slice o10.A3 o10.n3 o10.c3] 26)).mono hb10.size))) (Nat.le_trans hb10.size (by simp)) HS9.out).mono (fun e w' h => (show SysAns _ ⟨[], [], []⟩ (.bool false) e w' from h.at_none HR2.out)); clear hs10 ho10 hb10 hb10')
            | (go_at_call 30; refine hrs.mono ?_; clear hrs; rintro e w11 ⟨o11, rfl, hs11, ho11, hb11⟩; have hb11' := HB10.out.trans (hb11.mono HB10.out.size); have HB11 := Lib.hid (hb11'.trans ((bel_new w11 (.cells #[.slice o11.A o11.n o11.c, .slice o11.A2 o11.n2 o11.c2, .slice o11.A3 o11.n3 o11.c3] 26)).mono hb11'.size)); have hk3 := ((Blk.new w10 26 #[.slice o10.A o10.n o10.c, .slice o10.A2 o10.n2 o10.c2, .slice o10.A3 o10.n3 o10.c3]).below hb11 (by simp)).alloc (.cells #[.slice o11.A o11.n o11.c, .slice o11.A2 o11.n2 o11.c2, .slice o11.A3 o11.n3 o11.c3] 26); have k0 := hk3.cell 0; have k1 := hk3.cell 1; have k2 := hk3.cell 2; simp only [List.getElem?_toArray, List.getElem?_cons_zero, List.getElem?_cons_succ] at k0 k1 k2; have hal := alike_ans (W := w11.alloc (.cells #[.slice o11.A o11.n o11.c, .slice o11.A2 o11.n2 o11.c2, .slice o11.A3 o11.n3 o11.c3] 26)) (HO10.out.below (((bel_new w10 _).trans (hb11.mono (by simp))).alloc (by have := hb11.size; simp at this; omega) _)) (ho11.below (bel_new w11 _)) (by have := hb11.size; simp at this; simp; omega) (by simp) (HS10.out.trans hs11.symm); clear hs11 ho11 hb11 hb11' hk3)
            | (go_at_call 19; refine hal.mono ?_; clear hal; rintro e w12 ⟨rfl, hb12⟩; have HB12 := Lib.hid (HB11.out.trans (hb12.mono HB11.out.size)); clear hb12 k0 k1 k2))
          go_ret
          exact ⟨rfl, (HBX.out _ HB12.out).bel⟩
        · have HR2 := Lib.hid hR2
          have hsy := (sysAct_any HE9.out (Nat.le_refl _) HS9.out).mono (fun e w' h => (show SysAns w9 p2 (.int .i64 0) e w' from h.at_some HR2.out))
          clear hR2
          go_wp2_with (first
            | (go_at_call 29; refine hsy.mono ?_; clear hsy; rintro e w10 ⟨o10, rfl, hs10, ho10, hb10⟩; have hb10' := HB9.out.trans (hb10.mono HB9.out.size); have HB10 := Lib.hid (hb10'.trans ((bel_new w10 (.cells #[.slice o10.A o10.n o10.c, .slice o10.A2 o10.n2 o10.c2, .slice o10.A3 o10.n3 o10.c3] 26)).mono hb10'.size)); have HS10 := Lib.hid hs10; have HO10 := Lib.hid ho10; have hrs := (refSys_any (HE9.out.below (hb10.trans ((bel_new w10 (.cells #[.slice o10.A o10.n o10.c, .slice o10.A2 o10.n2 o10.c2, .slice o10.A3 o10.n3 o10.c3] 26)).mono hb10.size))) (Nat.le_trans hb10.size (by simp)) HS9.out).mono (fun e w' h => (show SysAns _ p2 (.bool true) e w' from h.at_some HR2.out)); clear hs10 ho10 hb10 hb10')
            | (go_at_call 30; refine hrs.mono ?_; clear hrs; rintro e w11 ⟨o11, rfl, hs11, ho11, hb11⟩; have hb11' := HB10.out.trans (hb11.mono HB10.out.size); have HB11 := Lib.hid (hb11'.trans ((bel_new w11 (.cells #[.slice o11.A o11.n o11.c, .slice o11.A2 o11.n2 o11.c2, .slice o11.A3 o11.n3 o11.c3] 26)).mono hb11'.size)); have hk3 := ((Blk.new w10 26 #[.slice o10.A o10.n o10.c, .slice o10.A2 o10.n2 o10.c2, .slice o10.A3 o10.n3 o10.c3]).below hb11 (by simp)).alloc (.cells #[.slice o11.A o11.n o11.c, .slice o11.A2 o11.n2 o11.c2, .slice o11.A3 o11.n3 o11.c3] 26); have k0 := hk3.cell 0; have k1 := hk3.cell 1; have k2 := hk3.cell 2; simp only [List.getElem?_toArray, List.getElem?_cons_zero, List.getElem?_cons_succ] at k0 k1 k2; have hal := alike_ans (W := w11.alloc (.cells #[.slice o11.A o11.n o11.c, .slice o11.A2 o11.n2 o11.c2, .slice o11.A3 o11.n3 o11.c3] 26)) (HO10.out.below (((bel_new w10 _).trans (hb11.mono (by simp))).alloc (by have := hb11.size; simp at this; omega) _)) (ho11.below (bel_new w11 _)) (by have := hb11.size; simp at this; simp; omega) (by simp) (HS10.out.trans hs11.symm); clear hs11 ho11 hb11 hb11' hk3)
            | (go_at_call 19; refine hal.mono ?_; clear hal; rintro e w12 ⟨rfl, hb12⟩; have HB12 := Lib.hid (HB11.out.trans (hb12.mono HB11.out.size)); clear hb12 k0 k1 k2))
          go_ret
          exact ⟨rfl, (HBX.out _ HB12.out).bel⟩
      · obtain ⟨q, hq⟩ : ∃ q : Nat, x = (q : Int) := ⟨x.toNat, by omega⟩
        subst hq
        go_upto_region 15 with (fail)
        clear hneg hx0 hx1
        obtain ⟨j, hj⟩ : ∃ j, j = q % x6.n := ⟨_, rfl⟩
        have hjn : j < x6.n := by rw [hj]; exact Nat.mod_lt _ hpos
        have hjt : (q : Int).tmod (x6.n : Int) = (j : Int) := by rw [Int.tmod_eq_emod_of_nonneg (by omega), hj]; rfl
        have hjq : (q : Int) % (x6.n : Int) = (j : Int) := by rw [hj]; rfl
        obtain ⟨g, hxA, hgb, x0, hxc, hfz, hfl⟩ := HL8.out.flip HD6.out hjn
        have hxor := xor21_u8 x0 y
        have HEN := Lib.hid (hfl (x0 ^^^ y))
        have HGB := Lib.hid hgb
        rw [hxA]
        generalize x0 ^^^ y = x1 at *
        have HXA := Lib.hid hxA
        obtain ⟨w9, hw9⟩ : ∃ w9, w9 = (w8.setCell ⟨g, j, none⟩ (.int .u8 (x1.toNat : Int))).drew := ⟨_, rfl⟩
        have HW9 := Lib.hid hw9
        have hgw : w.heap.size ≤ g := Nat.le_trans (HBX.out _ HB5.out).bel.size hgb
        have hg0 : W0.heap.size ≤ g := Nat.le_trans HB5.out.size hgb
        have HB9 := Lib.hid (show Below W0.heap.size W0 w9 by rw [hw9]; exact (HB8.out.setCell (p := ⟨g, j, none⟩) hg0 _).drew)
        have hz9 : w9.heap.size = w8.heap.size := by rw [hw9]; simp
        have HE9 : Hid (EntsAt w9 w9.heap.size (some ⟨b, off, none⟩) (fs.length + 1) c6 (fs ++ [(⟨x6.path, x6.kind, x6.data.set j x1, x6.A, x6.n, x6.c⟩ : EV)])) := by
          rw [hz9, hw9]
          exact HEN.out.below (Below.refl _ _).drew
        have HS9 := Lib.hid (show SmallE (fs.length + 1) (fs ++ [(⟨x6.path, x6.kind, x6.data.set j x1, x6.A, x6.n, x6.c⟩ : EV)]) from ⟨fun e he => by
          rcases List.mem_append.1 he with he | he
          · exact HSE.out.ents e (List.mem_append.2 (.inl he))
          · rw [List.mem_singleton.1 he]
            have := HSE.out.ents x6 (by simp)
            exact ⟨this.1, by simp only [List.length_set]; exact this.2⟩, HSE.out.n⟩)
        clear hfl hgb hxA hj hw9 hgw hg0 hz9
        go_region
        all_goals rw [← HW9.out]
        all_goals clear hxc hfz hxor hjt hjq hjn
        rcases hR2 : sysR ((fs ++ [(⟨x6.path, x6.kind, x6.data.set j x1, x6.A, x6.n, x6.c⟩ : EV)]).map EV.ent) with _ | p2
        · have HR2 := Lib.hid hR2
          have hsy := (sysAct_any HE9.out (Nat.le_refl _) HS9.out).mono (fun e w' h => (show SysAns w9 ⟨[], [], []⟩ (.int .i64 63) e w' from h.at_none HR2.out))
          clear hR2
          go_wp2_with (first
            | (go_at_call 29; refine hsy.mono ?_; clear hsy; rintro e w10 ⟨o10, rfl, hs10, ho10, hb10⟩; have hb10' := HB9.out.trans (hb10.mono HB9.out.size); have HB10 := Lib.hid (hb10'.trans ((bel_new w10 (.cells #[.slice o10.A o10.n o10.c, .slice o10.A2 o10.n2 o10.c2, .slice o10.A3 o10.n3 o10.c3] 26)).mono hb10'.size)); have HS10 := Lib.hid hs10; have HO10 := Lib.hid ho10; have hrs := (refSys_any (HE9.out.below (hb10.trans ((bel_new w10 (.cells #[.slice o10.A o10.n o10.c, .slice o10.A2 o10.n2 o10.c2, .slice o10.A3 o10.n3 o10.c3] 26)).mono hb10.size))) (Nat.le_trans hb10.size (by simp)) HS9.out).mono (fun e w' h => (show SysAns _ ⟨[], [], []⟩ (.bool false) e w' from h.at_none HR2.out)); clear hs10 ho10 hb10 hb10')
            | (go_at_call 30; refine hrs.mono ?_; clear hrs; rintro e w11 ⟨o11, rfl, hs11, ho11, hb11⟩; have hb11' := HB10.out.trans (hb11.mono HB10.out.size); have HB11 := Lib.hid (hb11'.trans ((bel_new w11 (.cells #[.slice o11.A o11.n o11.c, .slice o11.A2 o11.n2 o11.c2, .slice o11.A3 o11.n3 o11.c3] 26)).mono hb11'.size)); have hk3 := ((Blk.new w10 26 #[.slice o10.A o10.n o10.c, .slice o10.A2 o10.n2 o10.c2, .slice o10.A3 o10.n3 o10.c3]).below hb11 (by simp)).alloc (.cells #[.slice o11.A o11.n o11.c, .slice o11.A2 o11.n2 o11.c2, .slice o11.A3 o11.n3 o11.c3] 26); have k0 := hk3.cell 0; have k1 := hk3.cell 1; have k2 := hk3.cell 2; simp only [List.getElem?_toArray, List.getElem?_cons_zero, List.getElem?_cons_succ] at k0 k1 k2; have hal := alike_ans (W := w11.alloc (.cells #[.slice o11.A o11.n o11.c, .slice o11.A2 o11.n2 o11.c2, .slice o11.A3 o11.n3 o11.c3] 26)) (HO10.out.below (((bel_new w10 _).trans (hb11.mono (by simp))).alloc (by have := hb11.size; simp at this; omega) _)) (ho11.below (bel_new w11 _)) (by have := hb11.size; simp at this; simp; omega) (by simp) (HS10.out.trans hs11.symm); clear hs11 ho11 hb11 hb11' hk3)
            | (go_at_call 19; refine hal.mono ?_; clear hal; rintro e w12 ⟨rfl, hb12⟩; have HB12 := Lib.hid (HB11.out.trans (hb12.mono HB11.out.size)); clear hb12 k0 k1 k2))
          go_ret
          exact ⟨rfl, (HBX.out _ HB12.out).bel⟩
        · have HR2 := Lib.hid hR2
          have hsy := (sysAct_any HE9.out (Nat.le_refl _) HS9.out).mono (fun e w' h => (show SysAns w9 p2 (.int .i64 0) e w' from h.at_some HR2.out))
          clear hR2
          go_wp2_with (first
            | (go_at_call 29; refine hsy.mono ?_; clear hsy; rintro e w10 ⟨o10, rfl, hs10, ho10, hb10⟩; have hb10' := HB9.out.trans (hb10.mono HB9.out.size); have HB10 := Lib.hid (hb10'.trans ((bel_new w10 (.cells #[.slice o10.A o10.n o10.c, .slice o10.A2 o10.n2 o10.c2, .slice o10.A3 o10.n3 o10.c3] 26)).mono hb10'.size)); have HS10 := Lib.hid hs10; have HO10 := Lib.hid ho10; have hrs := (refSys_any (HE9.out.below (hb10.trans ((bel_new w10 (.cells #[.slice o10.A o10.n o10.c, .slice o10.A2 o10.n2 o10.c2, .slice o10.A3 o10.n3 o10.c3] 26)).mono hb10.size))) (Nat.le_trans hb10.size (by simp)) HS9.out).mono (fun e w' h => (show SysAns _ p2 (.bool true) e w' from h.at_some HR2.out)); clear hs10 ho10 hb10 hb10')
            | (go_at_call 30; refine hrs.mono ?_; clear hrs; rintro e w11 ⟨o11, rfl, hs11, ho11, hb11⟩; have hb11' := HB10.out.trans (hb11.mono HB10.out.size); have HB11 := Lib.hid (hb11'.trans ((bel_new w11 (.cells #[.slice o11.A o11.n o11.c, .slice o11.A2 o11.n2 o11.c2, .slice o11.A3 o11.n3 o11.c3] 26)).mono hb11'.size)); have hk3 := ((Blk.new w10 26 #[.slice o10.A o10.n o10.c, .slice o10.A2 o10.n2 o10.c2, .slice o10.A3 o10.n3 o10.c3]).below hb11 (by simp)).alloc (.cells #[.slice o11.A o11.n o11.c, .slice o11.A2 o11.n2 o11.c2, .slice o11.A3 o11.n3 o11.c3] 26); have k0 := hk3.cell 0; have k1 := hk3.cell 1; have k2 := hk3.cell 2; simp only [List.getElem?_toArray, List.getElem?_cons_zero, List.getElem?_cons_succ] at k0 k1 k2; have hal := alike_ans (W := w11.alloc (.cells #[.slice o11.A o11.n o11.c, .slice o11.A2 o11.n2 o11.c2, .slice o11.A3 o11.n3 o11.c3] 26)) (HO10.out.below (((bel_new w10 _).trans (hb11.mono (by simp))).alloc (by have := hb11.size; simp at this; omega) _)) (ho11.below (bel_new w11 _)) (by have := hb11.size; simp at this; simp; omega) (by simp) (HS10.out.trans hs11.symm); clear hs11 ho11 hb11 hb11' hk3)
            | (go_at_call 19; refine hal.mono ?_; clear hal; rintro e w12 ⟨rfl, hb12⟩; have HB12 := Lib.hid (HB11.out.trans (hb12.mono HB11.out.size)); clear hb12 k0 k1 k2))
          go_ret
          exact ⟨rfl, (HBX.out _ HB12.out).bel⟩

end Go.Proofs.YtibndaianhlcaaaGreatDoor
