/- bootjackref21.laid: a system's entries, as the document's answer has them. slices.ContainsFunc and slices.Contains as activate calls them; same, alike. -/
import Derived.Test.YtibndaianhlcaaaGreatDoorPart18
import Derived.Deep.RegionLaw
import Derived.Test.YtibndaianhlcaaaGreatDoorPart14
namespace Go.Proofs.YtibndaianhlcaaaGreatDoor
open Go.RowKit Go.Sort Go.Shelf
open Go.WideShapes (bytes_inj)
set_option linter.unusedVariables false
set_option linter.unusedSimpArgs false

/-- Entries in a row of the call's own, their bytes the caller's, below D. -/
structure ShareE (w : World) (D base : Nat) (v : Value) (n : Nat) (es : List EV) : Prop where
  own : w.ownsRow base 35 3 v n (es.flatMap evCells)
  data : ∀ e ∈ es, Slc w D 1 e.A e.n e.c (e.data.map bv)
  le : D ≤ base
theorem ShareE.nil (w : World) {D base : Nat} (h : D ≤ base) : ShareE w D base (.slice none 0 0) 0 [] := ⟨World.ownsRow_nil _ _ _ _, (fun e he => by cases he), h⟩
theorem ShareE.len {w : World} {D base : Nat} {v : Value} {n : Nat} {es : List EV} (h : ShareE w D base v n es) : es.length = n := by
  have := h.own.1
  rw [flatMap_len evCells 3 es (fun o _ => evCells_length o)] at this
  omega
theorem ShareE.below {w w' : World} {D base : Nat} {v : Value} {n : Nat} {es : List EV} (h : ShareE w D base v n es) (hb : Below w.heap.size w w') (hD : D ≤ w.heap.size) : ShareE w' D base v n es :=
  ⟨own_below h.own hb, fun e he => (h.data e he).below (hb.mono hD), h.le⟩
theorem ShareE.append {w : World} {D base : Nat} {v : Value} {n : Nat} {es : List EV} (h : ShareE w D base v n es) (e : EV) {ps : ByteArray} (hps : ps = ⟨e.path.toArray⟩) (hn : n ≤ 1000000000) (hbase : base ≤ w.heap.size) {B : Nat} (hS : Slc w B 1 e.A e.n e.c (e.data.map bv)) (hB : B ≤ w.heap.size) (hne : ∀ q, v.ownBlock = some q → ∀ x, 0 < e.n → e.A = some x → x.block ≠ q) :
    ∃ A' c' w', (Builtin.append_ #[22, 22] 22 #[v, .slice (some ⟨w.heap.size, 0, none⟩) 1 1]).run Tryz.prog (w.alloc (.cells #[.string ps, .int .i64 e.kind, .slice e.A e.n e.c] 35)) = .ok (.slice A' (n + 1) c') w' ∧
      w'.ownsRow base 35 3 (.slice A' (n + 1) c') (n + 1) ((es ++ [e]).flatMap evCells) ∧ (∀ x ∈ es, Slc w' D 1 x.A x.n x.c (x.data.map bv)) ∧ Slc w' B 1 e.A e.n e.c (e.data.map bv) ∧ (w.alloc (.cells #[.string ps, .int .i64 e.kind, .slice e.A e.n e.c] 35)).grownBy w' v.ownBlock := by
  subst hps
  obtain ⟨i, hi, hz0, hz1, hz2⟩ := info_parts ent_info
  have hs := slc_new w 35 (0, 0) #[.string ⟨e.path.toArray⟩, .int .i64 e.kind, .slice e.A e.n e.c] (sz := 3) (n := 1) (c := 1) rfl (Nat.le_refl _) (by decide)
  obtain ⟨A', c', w', h1, h2, h3, h4⟩ := append_slc (P := Tryz.prog) (w.alloc (.cells #[.string ⟨e.path.toArray⟩, .int .i64 e.kind, .slice e.A e.n e.c] 35)) base 22 22 35 i _ 3 48 Tryz.underlying22 hi hz0 hz1 hz2 rfl (by decide) v n (es.flatMap evCells) (h.own.alloc _) _ _ 1 1 (evCells e) hs (fun u hu => evCells_one [e] u (by rw [List.flatMap_cons, List.flatMap_nil, List.append_nil]; exact hu)) (by unfold maxLen; omega) (by omega) (by simp; omega)
  have hkeep : ∀ g, g < w.heap.size → v.ownBlock ≠ some g → w'.heap[g]? = w.heap[g]? := fun g g3 g4 => (h3.block g (by simp; omega) (fun e => g4 e.symm)).trans (Below.heap_alloc w _ g g3)
  have hD := h.le
  refine ⟨A', c', w', h1, ?_, fun x hx => ?_, ?_, h3⟩
  · rw [List.flatMap_append, List.flatMap_cons, List.flatMap_nil, List.append_nil]
    exact h2
  · have hsx := h.data x hx
    refine ⟨hsx.len, hsx.le, hsx.cmax, fun hp => ?_⟩
    obtain ⟨b, off, e1, hb, hc⟩ := hsx.at_ hp
    refine ⟨b, off, e1, hb, fun j u hu => ?_⟩
    rw [World.cell?_of_block (w := w) (a := ⟨b, off + j, none⟩) (hkeep b (by omega) (fun e9 => by have := (h.own.lt _ e9).1; omega))]
    exact hc j u hu
  · refine ⟨hS.len, hS.le, hS.cmax, fun hp => ?_⟩
    obtain ⟨b, off, e1, hb, hc⟩ := hS.at_ hp
    refine ⟨b, off, e1, hb, fun j u hu => ?_⟩
    rw [World.cell?_of_block (w := w) (a := ⟨b, off + j, none⟩) (hkeep b (by omega) (fun e9 => hne b e9 _ hp e1 rfl))]
    exact hc j u hu
/-- What laid gives. -/
def RefLaid (w : World) (s : SysP) : Ending → World → Prop := fun e w' => ∃ A n c es, e = .returned (.slice A n c) ∧ es.map EV.ent = laidS s ∧ EntsAt w' w'.heap.size A n c es ∧ Below w.heap.size w w'
set_option maxRecDepth 100000 in
set_option maxHeartbeats 4000000 in
theorem refLaid_any {w : World} {B : Nat} {o : OV} (h : ObsAt w B o) (hB : B ≤ w.heap.size) (hs : SmallO o) (hn2 : o.n2 ≤ 16) (hn3 : o.n3 ≤ 24) :
    Calls Tryz.prog 36 #[.agg (ovArr o)] w (RefLaid w (sysO o)) := by
  obtain ⟨A, n, c, es, A2, n2, c2, users, A3, n3, c3, us⟩ := o
  obtain ⟨h1, h2, h3⟩ := h
  simp only at h1 h2 h3 hn2 hn3
  obtain ⟨W0, hW0⟩ : ∃ W0, W0 = w.alloc (.cells #[.slice A n c, .slice A2 n2 c2, .slice A3 n3 c3] 26) := ⟨_, rfl⟩
  have hb0 : Below w.heap.size w W0 := by rw [hW0]; exact bel_new _ _
  have hz0 : W0.heap.size = w.heap.size + 1 := by rw [hW0]; simp
  have hG0 : Blk W0 w.heap.size 26 #[.slice A n c, .slice A2 n2 c2, .slice A3 n3 c3] := by rw [hW0]; exact Blk.new _ _ _
  have HW0 := Lib.hid hW0
  have HB0 := Lib.hid hb0
  have HZ0 := Lib.hid hz0
  have HGK := Lib.hid (fun (W : World) (hW : Below W0.heap.size W0 W) => show W.cell? ⟨w.heap.size, 0, none⟩ = some (.slice A n c) ∧ W.cell? ⟨w.heap.size, 1, none⟩ = some (.slice A2 n2 c2) ∧ W.cell? ⟨w.heap.size, 2, none⟩ = some (.slice A3 n3 c3) from ⟨(hG0.below hW hG0.lt).cell 0, (hG0.below hW hG0.lt).cell 1, (hG0.below hW hG0.lt).cell 2⟩)
  have H1 := Lib.hid h1
  have H2 := Lib.hid h2
  have H3 := Lib.hid h3
  have HS := Lib.hid hs
  have HB := Lib.hid hB
  have hn : n ≤ 1048576 := hs.n
  have HSU := Lib.hid (show ∀ t ∈ users, t.length ≤ 1048576 from hs.users)
  have HSN := Lib.hid (show ∀ u ∈ us, SmallU u from hs.units)
  have HSE := Lib.hid (show ∀ e ∈ es, e.path.length ≤ 1048576 ∧ e.data.length ≤ 1048576 from hs.ents)
  have HL1 := Lib.hid h1.len
  have HL2 := Lib.hid (show users.length = n2 by have := h2.len; simpa using this)
  have HL3 := Lib.hid h3.len
  have HO0 := Lib.hid (ShareE.nil W0 (show B ≤ W0.heap.size by omega))
  clear h1 h2 h3 hs hb0 hz0 hG0 hW0 hB
  unfold ovArr
  simp only
  go_enter Tryz.func36, Tryz.ntmps36
  go_wp2_with (fail)
  rw [← HW0.out]
  go_loopw [3, 4] (fun s i wr => ∃ (k : Nat) (A' : Option Addr) (c' : Nat) (es' : List EV), k ≤ n ∧ i = .int .i64 (k : Int) ∧ s = .slice A' k c' ∧ Aside (ShareE wr B W0.heap.size (.slice A' k c') k es') ∧ Aside (es'.map EV.ent = ((es.map EV.ent).take k).map etcE) ∧ Aside (Below W0.heap.size W0 wr)) (fun _ i _ => n - (intOf i).toNat)
  case atStart => exact ⟨0, none, 0, [], Nat.zero_le _, rfl, rfl, HO0.out, rfl, Below.refl _ _⟩
  case round =>
    obtain ⟨k, A', c', es', hk, rfl, rfl, ho, hmap, hb⟩ := hrel
    have hbw := HB0.out.trans (hb.out.mono HB0.out.size)
    obtain ⟨g0, g1, g2⟩ := HGK.out _ hb.out
    have hwl : w.heap.size < wr.heap.size := by have := hb.out.size; have := HZ0.out; omega
    by_cases hlt : k < n
    · obtain ⟨b, off, rfl, hbB, hl, c0, c1, c2', hS⟩ := (H1.out.below (hbw.mono HB.out)).at_ hlt
      have hsm := HSE.out _ (List.getElem_mem hl)
      have HM := Lib.hid (show ((es.map EV.ent).take (k + 1)).map etcE = ((es.map EV.ent).take k).map etcE ++ [etcE es[k].ent] by
        rw [← List.map_take, ← List.map_take, List.take_succ_eq_append_getElem hl, List.map_append, List.map_append]; rfl)
      generalize es[k] = e at *
      have hBw : B ≤ wr.heap.size := Nat.le_trans HB.out hbw.size
      have hbl : b < wr.heap.size := Nat.lt_of_lt_of_le hbB hBw
      obtain ⟨W1, hW1⟩ : ∃ W1, W1 = wr.alloc (.cells #[.string (⟨#[101, 116, 99, 47]⟩ ++ ⟨e.path.toArray⟩), .int .i64 e.kind, .slice e.A e.n e.c] 35) := ⟨_, rfl⟩
      have hb1 : Below wr.heap.size wr W1 := by rw [hW1]; exact bel_new _ _
      have hz1 : W1.heap.size = wr.heap.size + 1 := by rw [hW1]; simp
      have ho1 := ho.out.below hb1 hBw
      have hS1 := hS.below (hb1.mono hBw)
      obtain ⟨A6, c6, w6, r6, o6, d6, s6, g6⟩ := ho1.append ⟨[101, 116, 99, 47] ++ e.path, e.kind, e.data, e.A, e.n, e.c⟩ (ps := ⟨#[101, 116, 99, 47]⟩ ++ ⟨e.path.toArray⟩) (bytes_inj (by simp)) (by omega) (by have := hb.out.size; omega) hS1 (by omega) (fun q hq x hx0 hx => by
        have h7 := (ho.out.own.lt _ hq).1
        obtain ⟨b9, o9, e9, hb9, _⟩ := hS.at_ hx0
        have hx : e.A = some x := hx
        rw [e9] at hx
        rw [← Option.some.inj hx]
        have := HB.out
        have := HZ0.out
        simp only
        omega)
      rw [hz1, hW1] at r6
      have HR6 := Lib.hid r6
      have HO6 := Lib.hid (show ShareE w6 B W0.heap.size (.slice A6 (k + 1) c6) (k + 1) (es' ++ [⟨[101, 116, 99, 47] ++ e.path, e.kind, e.data, e.A, e.n, e.c⟩]) from ⟨o6, fun x hx => by
        rcases List.mem_append.1 hx with hx | hx
        · exact d6 x hx
        · rw [List.mem_singleton.1 hx]; exact s6, ho.out.le⟩)
      have HB6 := Lib.hid (show Below W0.heap.size W0 w6 from grown_below ((hb.out.trans (hb1.mono hb.out.size)).alloc (Nat.le_trans hb.out.size hb1.size) _) (ho1.own.alloc _) (by have := hb.out.size; simp; omega) g6)
      have q1 : ¬ 9223372036854775807 < 4 + e.path.length := by omega
      clear r6 o6 d6 s6 g6 ho1 hS1 hb1 hz1 hW1 hS hbw
      go_wp2_with (at_builtin; refine wpList_append_run rfl _ _ _ rfl rfl rfl HR6.out ?_; clear HR6)
      exact ⟨⟨k + 1, A6, c6, _, by omega, by go_num, rfl, HO6.out, (show (_ : List Ent) = _ by rw [HM.out, ← hmap.out, List.map_append]; rfl), HB6.out⟩, by simp [intOf]; omega⟩
    · obtain rfl : k = n := by omega
      have HMF := Lib.hid (show es'.map EV.ent = (es.map EV.ent).map etcE by rw [hmap.out, List.take_of_length_le (by rw [List.length_map]; have := HL1.out; omega)])
      have HOF := ho
      have HBF := hb
      clear hmap ho hb hbw
      go_wp2_with (fail)
      go_loopw [6, 7] (fun s i wr' => ∃ (j : Nat) (bb : ByteArray), j ≤ n2 ∧ i = .int .i64 (j : Int) ∧ s = .string bb ∧ Aside (bb.data.toList = linesW [117, 115, 101, 114, 32] (users.take j)) ∧ Aside (ShareE wr' B W0.heap.size (.slice A' k c') k es') ∧ Aside (Below W0.heap.size W0 wr')) (fun _ i _ => n2 - (intOf i).toNat)
      case atStart => exact ⟨0, _, Nat.zero_le _, rfl, rfl, rfl, HOF.out, HBF.out⟩
      case round =>
        clear g0 g1 g2
        obtain ⟨j, bb, hj, rfl, rfl, hbb, ho, hb⟩ := hrel
        have hbs : bb.size ≤ 1100000000000 := by
          rw [← bsz_list, hbb.out]
          exact users_lim (by have := HL2.out; omega) HSU.out j
        have hbw := HB0.out.trans (hb.out.mono HB0.out.size)
        obtain ⟨g0, g1, g2⟩ := HGK.out _ hb.out
        by_cases hlt : j < n2
        · obtain ⟨b, off, rfl, hbB, hl, c0⟩ := txtAt21 (H2.out.below (hbw.mono HB.out)) hlt
          have ht := HSU.out _ (List.getElem_mem hl)
          have HT := Lib.hid (linesW_succ [117, 115, 101, 114, 32] users hl)
          generalize users[j] = t at *
          have q1 : ¬ 9223372036854775807 < bb.size + 5 := by omega
          have q2 : ¬ 9223372036854775807 < bb.size + 5 + t.length := by omega
          have q3 : ¬ 9223372036854775807 < bb.size + 5 + t.length + 1 := by omega
          clear hbw
          go_wp2_with (fail)
          exact ⟨⟨j + 1, _, by omega, by go_num, rfl, (show (_ : Txt) = _ by rw [HT.out, ← hbb.out]; simp), ho.out, hb.out⟩, by simp [intOf]; omega⟩
        · obtain rfl : j = n2 := by omega
          have HBB := Lib.hid (show bb.data.toList = linesW [117, 115, 101, 114, 32] users by rw [hbb.out, List.take_of_length_le (by have := HL2.out; omega)])
          have HBS := Lib.hid hbs
          clear hbb hbw HOF HBF hbs
          go_wp2_with (fail)
          go_loopw [6, 8] (fun s i wr3 => ∃ (m : Nat) (b3 : ByteArray), m ≤ n3 ∧ i = .int .i64 (m : Int) ∧ s = .string b3 ∧ Aside (b3.data.toList = bb.data.toList ++ unitsW ((us.map SV.srv).take m)) ∧ Aside (ShareE wr3 B W0.heap.size (.slice A' k c') k es') ∧ Aside (Below W0.heap.size W0 wr3)) (fun _ i _ => n3 - (intOf i).toNat)
          case atStart => exact ⟨0, _, Nat.zero_le _, rfl, rfl, (show (_ : Txt) = _ by simp [unitsW]), ho.out, hb.out⟩
          case round =>
            clear ho hb g0 g1 g2
            obtain ⟨m, b3, hm, rfl, rfl, hbb, ho, hb⟩ := hrel
            have hb3 : b3.size ≤ 61100000000000 := by
              have h1 := congrArg List.length hbb.out
              rw [bsz_list, List.length_append, bsz_list] at h1
              have h2 := HBS.out
              have h3 := units_lim (us := us) (by have := HL3.out; omega) (fun u hu => (unitW_lim (HSN.out u hu) (by have := (H3.out.req u hu).len; simpa using this) (by have := (H3.out.aft u hu).len; simpa using this)).2) m
              omega
            have hbw := HB0.out.trans (hb.out.mono HB0.out.size)
            obtain ⟨g0, g1, g2⟩ := HGK.out _ hb.out
            by_cases hlt : m < n3
            · obtain ⟨b, off, rfl, hbB, hl, c0, c1, c2', c3', hS1, hS2⟩ := (H3.out.below (hbw.mono HB.out)).at_ hlt
              have hsu := HSN.out _ (List.getElem_mem hl)
              have HT := Lib.hid (show unitsW ((us.map SV.srv).take (m + 1)) = unitsW ((us.map SV.srv).take m) ++ unitW us[m].srv by rw [unitsW_succ _ (by rw [List.length_map]; exact hl), List.getElem_map])
              generalize us[m] = u at *
              obtain ⟨ll1, ll2⟩ := unitW_lim hsu (by have := hS1.len; simpa using this) (by have := hS2.len; simpa using this)
              have hnm := hsu.name
              have hBw : B ≤ wr.heap.size := Nat.le_trans HB.out hbw.size
              have hbl : b < wr.heap.size := Nat.lt_of_lt_of_le hbB hBw
              have hun := lines21_any (w := wr.drew) u hS1.drew hS2.drew hBw hsu
              have HKP := Lib.hid (fun (W' : World) (h9 : Below wr.heap.size wr W') => show W'.cell? ⟨w.heap.size, 2, none⟩ = some (.slice (some ⟨b, off, none⟩) n3 c3) ∧ W'.cell? ⟨b, off + m * 4, none⟩ = some (.string ⟨u.name.toArray⟩) ∧ W'.cell? ⟨b, off + m * 4 + 1, none⟩ = some (.string ⟨u.start.toArray⟩) ∧ W'.cell? ⟨b, off + m * 4 + 2, none⟩ = some (.slice u.A u.n u.c) ∧ W'.cell? ⟨b, off + m * 4 + 3, none⟩ = some (.slice u.A2 u.n2 u.c2) from by
                have h2 : w.heap.size < wr.heap.size := by have := hb.out.size; have := HZ0.out; omega
                exact ⟨(h9.cell h2).trans g2, (h9.cell hbl).trans c0, (h9.cell hbl).trans c1, (h9.cell hbl).trans c2', (h9.cell hbl).trans c3'⟩)
              unfold unitW at HT
              generalize linesU u.srv = lu at *
              have HUW := Lib.hid (show u.srv.name = u.name from rfl)
              rw [HUW.out] at HT
              unfold svArr at hun
              have q1 : ¬ 9223372036854775807 < b3.size + 5 := by omega
              have q2 : ¬ 9223372036854775807 < b3.size + 5 + u.name.length := by omega
              have q3 : ¬ 9223372036854775807 < b3.size + 5 + u.name.length + 1 := by omega
              have q4 : ¬ 9223372036854775807 < b3.size + 5 + u.name.length + 1 + lu.length := by omega
              clear hbw hS1 hS2 hsu ll1 ll2 hnm
              go_wp2_with (fail)
              go_region_held (fun W' => W'.cell? ⟨w.heap.size, 2, none⟩ = some (.slice (some ⟨b, off, none⟩) n3 c3) ∧ W'.cell? ⟨b, off + m * 4, none⟩ = some (.string ⟨u.name.toArray⟩) ∧ W'.cell? ⟨b, off + m * 4 + 1, none⟩ = some (.string ⟨u.start.toArray⟩) ∧ W'.cell? ⟨b, off + m * 4 + 2, none⟩ = some (.slice u.A u.n u.c) ∧ W'.cell? ⟨b, off + m * 4 + 3, none⟩ = some (.slice u.A2 u.n2 u.c2))
                (first | exact HKP.out _ HB2.out | exact HKP.out _ (Below.refl _ wr).drew)
                (first
                | (go_at_call 77; refine hun.mono ?_; clear hun; rintro e2 w2 ⟨rfl, hb2⟩; have HB2 := Lib.hid (show Below wr.heap.size wr w2 from ((Below.refl _ wr).drew).trans hb2); clear hb2))
              go_wp2_with (fail)
              have hfin := HB2.out
              exact ⟨⟨m + 1, _, by omega, by go_num, rfl, (show (_ : Txt) = _ by rw [HT.out, ← List.append_assoc, ← hbb.out]; simp), ho.out.below hfin hBw, hb.out.trans (hfin.mono hb.out.size)⟩, by simp [intOf]; omega⟩
            · obtain rfl : m = n3 := by omega
              have HTX := Lib.hid (show (b3 ++ (⟨#[101, 110, 100, 10]⟩ : ByteArray)).data.toList = textS ⟨es.map EV.ent, users, us.map SV.srv⟩ by
                rw [textS_eq]
                show _ = linesW [117, 115, 101, 114, 32] users ++ unitsW (us.map SV.srv) ++ [101, 110, 100, 10]
                rw [← HBB.out, ← List.take_of_length_le (l := us.map SV.srv) (i := m) (by rw [List.length_map]; have := HL3.out; omega), ← hbb.out]
                simp)
              have q1 : ¬ 9223372036854775807 < b3.size + 4 := by omega
              have hts : (b3 ++ (⟨#[101, 110, 100, 10]⟩ : ByteArray)).size = b3.size + 4 := by rw [ByteArray.size_append]; rfl
              obtain ⟨cap, w2, hcv, hb2, hz2, hS2, hBB⟩ := text_bytes wr (b3 ++ (⟨#[101, 110, 100, 10]⟩ : ByteArray)) (by rw [hts]; unfold maxLen; omega)
              rw [HTX.out] at hS2
              rw [hts] at hcv hS2 hBB
              have hBw : B ≤ wr.heap.size := Nat.le_trans HB.out hbw.size
              have ho2 := ho.out.below hb2 hBw
              have hlt0 : W0.heap.size ≤ wr.heap.size := hb.out.size
              obtain ⟨A6, c6, w6, r6, o6, d6, s6, g6⟩ := ho2.append ⟨[115, 121, 115, 116, 101, 109], 1, textS ⟨es.map EV.ent, users, us.map SV.srv⟩, some ⟨wr.heap.size, 0, none⟩, b3.size + 4, cap⟩ (ps := ⟨#[115, 121, 115, 116, 101, 109]⟩) rfl (by omega) (by omega) hS2 (by omega) (fun q hq x hx0 hx e9 => by
                have h7 := (ho.out.own.lt _ hq).2
                have hx' := congrArg Addr.block (Option.some.inj hx)
                simp only at hx'
                omega)
              have HO6 := Lib.hid (own_slc_of o6)
              have HL6 := Lib.hid (show (es' ++ [(⟨[115, 121, 115, 116, 101, 109], 1, textS ⟨es.map EV.ent, users, us.map SV.srv⟩, some ⟨wr.heap.size, 0, none⟩, b3.size + 4, cap⟩ : EV)]).length = k + 1 by rw [List.length_append, ho.out.len]; rfl)
              have HB6 := Lib.hid (show Below W0.heap.size W0 w6 from grown_below (((hb.out.trans (hb2.mono hlt0))).alloc (by omega) _) (ho2.own.alloc _) (by simp; omega) g6)
              have hz6 : w2.heap.size ≤ w6.heap.size := by have := g6.size; simp at this; omega
              have HD6 := Lib.hid (show ∀ x ∈ es' ++ [(⟨[115, 121, 115, 116, 101, 109], 1, textS ⟨es.map EV.ent, users, us.map SV.srv⟩, some ⟨wr.heap.size, 0, none⟩, b3.size + 4, cap⟩ : EV)], Slc w6 w6.heap.size 1 x.A x.n x.c (x.data.map bv) from fun x hx => by
                rcases List.mem_append.1 hx with hx | hx
                · exact (d6 x hx).more (by omega)
                · rw [List.mem_singleton.1 hx]; exact s6.more (by omega))
              have HR6 := Lib.hid r6
              clear hts hb2 hz2 hS2 hBB ho2 o6 d6 s6 g6 r6 hbw hbb ho hb hz6 hBw hb3
              go_wp2_with (at_builtin; refine wpList_append_run rfl _ _ _ rfl rfl rfl HR6.out ?_; clear HR6)
              go_ret
              refine ⟨A6, k + 1, c6, _, rfl, ?_, ⟨HO6.out, HL6.out, HD6.out⟩, HB0.out.trans (HB6.out.mono HB0.out.size)⟩
              rw [List.map_append, HMF.out]
              rfl
end Go.Proofs.YtibndaianhlcaaaGreatDoor
namespace Go.Proofs.YtibndaianhlcaaaGreatDoor
open Go.RowKit Go.Sort Go.Shelf
set_option linter.unusedVariables false
set_option linter.unusedSimpArgs false

def hasAt (l : List Bool) (r : Int) : Prop := decide (0 ≤ r) = l.any id

set_option maxRecDepth 100000 in
set_option maxHeartbeats 1000000 in
theorem idxR_any {w : World} {B : Nat} {A : Option Addr} {n c : Nat} {es : List SV} (h : UnitsAt w B A n c es) (hB : B ≤ w.heap.size) (bx : Nat) (p : SV → Bool) (hy : ∀ x ∈ es, ∀ wr, Below w.heap.size w wr → Calls Tryz.prog 41 #[.agg (svArr x), .pointer (some ⟨bx, 0, none⟩)] wr fun e w' => e = .returned (.bool (p x)) ∧ Below wr.heap.size wr w') :
    Calls Tryz.prog 82 #[.slice A n c, .func (.func 41) #[] #[.pointer (some ⟨bx, 0, none⟩)]] w fun e w' => ∃ r : Int, e = .returned (.int .i64 r) ∧ decide (0 ≤ r) = es.any p ∧ Below w.heap.size w w' := by
  have hn62 : n ≤ 9223372036854775807 := by have := h.slc.le; have := h.slc.cmax; unfold maxLen at this; omega
  have hlen : es.length = n := h.len
  have H := Lib.hid h
  have HL := Lib.hid hlen
  have HY := Lib.hid hy
  clear h hlen hy
  go_enter Tryz.func82, Tryz.ntmps82
  go_wp2_with (fail)
  go_loopw [8] (fun i wr => ∃ k : Nat, k ≤ n ∧ i = .int .i64 (k : Int) ∧ Aside ((es.take k).any p = false) ∧ Aside (Below w.heap.size w wr)) (fun i _ => n - (intOf i).toNat)
  case atStart => exact ⟨0, Nat.zero_le _, rfl, rfl, Below.refl _ _⟩
  case round =>
    obtain ⟨k, hk, rfl, hno, hb⟩ := hrel
    by_cases hlt : k < n
    · have hk1 : k + 1 ≤ n := hlt
      obtain ⟨b, off, rfl, hbB, hl, c0, c1, c2, c3, _, _⟩ := (H.out.below (hb.out.mono hB)).at_ hlt
      have hp := HY.out es[k] (List.getElem_mem hl) wr hb.out
      cases hhit : p es[k] with
      | true =>
        have HA := Lib.hid (show es.any p = true from List.any_eq_true.2 ⟨es[k], List.getElem_mem hl, hhit⟩)
        rw [hhit] at hp
        clear hhit
        unfold svArr at hp
        generalize es[k] = x at *
        obtain ⟨un, ust, ur, uA, un1, uc1, ua, uA2, un2, uc2⟩ := x
        simp only at hp c0 c1 c2 c3
        go_wp2_with (go_at_call 41; refine hp.mono ?_; clear hp; rintro e2 w2 ⟨rfl, hb2⟩)
        go_ret
        exact ⟨_, rfl, by rw [HA.out]; exact decide_eq_true (by omega), hb.out.trans (hb2.mono hb.out.size)⟩
      | false =>
        have HN := Lib.hid (show (es.take (k + 1)).any p = false by rw [List.take_succ_eq_append_getElem hl, List.any_append, hno.out, List.any_cons, hhit]; rfl)
        rw [hhit] at hp
        clear hhit
        unfold svArr at hp
        generalize es[k] = x at *
        obtain ⟨un, ust, ur, uA, un1, uc1, ua, uA2, un2, uc2⟩ := x
        simp only at hp c0 c1 c2 c3
        go_wp2_with (go_at_call 41; refine hp.mono ?_; clear hp; rintro e2 w2 ⟨rfl, hb2⟩)
        exact ⟨⟨k + 1, hk1, by go_num, HN.out, hb.out.trans (hb2.mono hb.out.size)⟩, by clear HN hb2; simp [intOf]; omega⟩
    · have HF := Lib.hid (show es.any p = false by rw [← hno.out, List.take_of_length_le (by have := HL.out; omega)])
      go_wp2_with (fail)
      go_ret
      exact ⟨_, rfl, by rw [HF.out]; rfl, hb.out⟩
theorem contR_any {w : World} {B : Nat} {A : Option Addr} {n c : Nat} {es : List SV} (h : UnitsAt w B A n c es) (hB : B ≤ w.heap.size) (bx : Nat) (p : SV → Bool) (hy : ∀ x ∈ es, ∀ wr, Below w.heap.size w wr → Calls Tryz.prog 41 #[.agg (svArr x), .pointer (some ⟨bx, 0, none⟩)] wr fun e w' => e = .returned (.bool (p x)) ∧ Below wr.heap.size wr w') :
    Calls Tryz.prog 40 #[.slice A n c, .func (.func 41) #[] #[.pointer (some ⟨bx, 0, none⟩)]] w fun e w' => e = .returned (.bool (es.any p)) ∧ Below w.heap.size w w' := by
  have hi := idxR_any h hB bx p hy
  clear h hy
  generalize es.any p = v at *
  go_enter Tryz.func40, Tryz.ntmps40
  go_wp2_with (go_at_call 82; refine hi.mono ?_; clear hi; rintro e2 w2 ⟨r, rfl, hr, hb2⟩)
  go_ret
  exact ⟨by rw [← hr]; rfl, hb2⟩

set_option maxRecDepth 100000 in
set_option maxHeartbeats 1000000 in
theorem idxP_any {w : World} {B : Nat} {A : Option Addr} {n c : Nat} {es : List EV} (h : EntsAt w B A n c es) (hB : B ≤ w.heap.size) (bx : Nat) (p : EV → Bool) (hy : ∀ x ∈ es, ∀ wr, Below w.heap.size w wr → Calls Tryz.prog 61 #[.agg (evArr x), .pointer (some ⟨bx, 0, none⟩)] wr fun e w' => e = .returned (.bool (p x)) ∧ Below wr.heap.size wr w') :
    Calls Tryz.prog 95 #[.slice A n c, .func (.func 61) #[] #[.pointer (some ⟨bx, 0, none⟩)]] w fun e w' => ∃ r : Int, e = .returned (.int .i64 r) ∧ decide (0 ≤ r) = es.any p ∧ Below w.heap.size w w' := by
  have hn62 : n ≤ 9223372036854775807 := by have := h.slc.le; have := h.slc.cmax; unfold maxLen at this; omega
  have hlen : es.length = n := h.len
  have H := Lib.hid h
  have HL := Lib.hid hlen
  have HY := Lib.hid hy
  clear h hlen hy
  go_enter Tryz.func95, Tryz.ntmps95
  go_wp2_with (fail)
  go_loopw [8] (fun i wr => ∃ k : Nat, k ≤ n ∧ i = .int .i64 (k : Int) ∧ Aside ((es.take k).any p = false) ∧ Aside (Below w.heap.size w wr)) (fun i _ => n - (intOf i).toNat)
  case atStart => exact ⟨0, Nat.zero_le _, rfl, rfl, Below.refl _ _⟩
  case round =>
    obtain ⟨k, hk, rfl, hno, hb⟩ := hrel
    by_cases hlt : k < n
    · have hk1 : k + 1 ≤ n := hlt
      obtain ⟨b, off, rfl, hbB, hl, c0, c1, c2, _⟩ := (H.out.below (hb.out.mono hB)).at_ hlt
      have hp := HY.out es[k] (List.getElem_mem hl) wr hb.out
      cases hhit : p es[k] with
      | true =>
        have HA := Lib.hid (show es.any p = true from List.any_eq_true.2 ⟨es[k], List.getElem_mem hl, hhit⟩)
        rw [hhit] at hp
        clear hhit
        unfold evArr at hp
        generalize es[k] = x at *
        obtain ⟨xp, xk, xd, xA, xn, xc⟩ := x
        simp only at hp c0 c1 c2
        go_wp2_with (go_at_call 61; refine hp.mono ?_; clear hp; rintro e2 w2 ⟨rfl, hb2⟩)
        go_ret
        exact ⟨_, rfl, by rw [HA.out]; exact decide_eq_true (by omega), hb.out.trans (hb2.mono hb.out.size)⟩
      | false =>
        have HN := Lib.hid (show (es.take (k + 1)).any p = false by rw [List.take_succ_eq_append_getElem hl, List.any_append, hno.out, List.any_cons, hhit]; rfl)
        rw [hhit] at hp
        clear hhit
        unfold evArr at hp
        generalize es[k] = x at *
        obtain ⟨xp, xk, xd, xA, xn, xc⟩ := x
        simp only at hp c0 c1 c2
        go_wp2_with (go_at_call 61; refine hp.mono ?_; clear hp; rintro e2 w2 ⟨rfl, hb2⟩)
        exact ⟨⟨k + 1, hk1, by go_num, HN.out, hb.out.trans (hb2.mono hb.out.size)⟩, by clear HN hb2; simp [intOf]; omega⟩
    · have HF := Lib.hid (show es.any p = false by rw [← hno.out, List.take_of_length_le (by have := HL.out; omega)])
      go_wp2_with (fail)
      go_ret
      exact ⟨_, rfl, by rw [HF.out]; rfl, hb.out⟩
theorem contP_any {w : World} {B : Nat} {A : Option Addr} {n c : Nat} {es : List EV} (h : EntsAt w B A n c es) (hB : B ≤ w.heap.size) (bx : Nat) (p : EV → Bool) (hy : ∀ x ∈ es, ∀ wr, Below w.heap.size w wr → Calls Tryz.prog 61 #[.agg (evArr x), .pointer (some ⟨bx, 0, none⟩)] wr fun e w' => e = .returned (.bool (p x)) ∧ Below wr.heap.size wr w') :
    Calls Tryz.prog 60 #[.slice A n c, .func (.func 61) #[] #[.pointer (some ⟨bx, 0, none⟩)]] w fun e w' => e = .returned (.bool (es.any p)) ∧ Below w.heap.size w w' := by
  have hi := idxP_any h hB bx p hy
  clear h hy
  generalize es.any p = v at *
  go_enter Tryz.func60, Tryz.ntmps60
  go_wp2_with (go_at_call 95; refine hi.mono ?_; clear hi; rintro e2 w2 ⟨r, rfl, hr, hb2⟩)
  go_ret
  exact ⟨by rw [← hr]; rfl, hb2⟩

set_option maxRecDepth 100000 in
set_option maxHeartbeats 1000000 in
theorem idxQ_any {w : World} {B : Nat} {A : Option Addr} {n c : Nat} {es : List EV} (h : EntsAt w B A n c es) (hB : B ≤ w.heap.size) (bx : Nat) (p : EV → Bool) (hy : ∀ x ∈ es, ∀ wr, Below w.heap.size w wr → Calls Tryz.prog 63 #[.agg (evArr x), .pointer (some ⟨bx, 0, none⟩)] wr fun e w' => e = .returned (.bool (p x)) ∧ Below wr.heap.size wr w') :
    Calls Tryz.prog 95 #[.slice A n c, .func (.func 63) #[] #[.pointer (some ⟨bx, 0, none⟩)]] w fun e w' => ∃ r : Int, e = .returned (.int .i64 r) ∧ decide (0 ≤ r) = es.any p ∧ Below w.heap.size w w' := by
  have hn62 : n ≤ 9223372036854775807 := by have := h.slc.le; have := h.slc.cmax; unfold maxLen at this; omega
  have hlen : es.length = n := h.len
  have H := Lib.hid h
  have HL := Lib.hid hlen
  have HY := Lib.hid hy
  clear h hlen hy
  go_enter Tryz.func95, Tryz.ntmps95
  go_wp2_with (fail)
  go_loopw [8] (fun i wr => ∃ k : Nat, k ≤ n ∧ i = .int .i64 (k : Int) ∧ Aside ((es.take k).any p = false) ∧ Aside (Below w.heap.size w wr)) (fun i _ => n - (intOf i).toNat)
  case atStart => exact ⟨0, Nat.zero_le _, rfl, rfl, Below.refl _ _⟩
  case round =>
    obtain ⟨k, hk, rfl, hno, hb⟩ := hrel
    by_cases hlt : k < n
    · have hk1 : k + 1 ≤ n := hlt
      obtain ⟨b, off, rfl, hbB, hl, c0, c1, c2, _⟩ := (H.out.below (hb.out.mono hB)).at_ hlt
      have hp := HY.out es[k] (List.getElem_mem hl) wr hb.out
      cases hhit : p es[k] with
      | true =>
        have HA := Lib.hid (show es.any p = true from List.any_eq_true.2 ⟨es[k], List.getElem_mem hl, hhit⟩)
        rw [hhit] at hp
        clear hhit
        unfold evArr at hp
        generalize es[k] = x at *
        obtain ⟨xp, xk, xd, xA, xn, xc⟩ := x
        simp only at hp c0 c1 c2
        go_wp2_with (go_at_call 63; refine hp.mono ?_; clear hp; rintro e2 w2 ⟨rfl, hb2⟩)
        go_ret
        exact ⟨_, rfl, by rw [HA.out]; exact decide_eq_true (by omega), hb.out.trans (hb2.mono hb.out.size)⟩
      | false =>
        have HN := Lib.hid (show (es.take (k + 1)).any p = false by rw [List.take_succ_eq_append_getElem hl, List.any_append, hno.out, List.any_cons, hhit]; rfl)
        rw [hhit] at hp
        clear hhit
        unfold evArr at hp
        generalize es[k] = x at *
        obtain ⟨xp, xk, xd, xA, xn, xc⟩ := x
        simp only at hp c0 c1 c2
        go_wp2_with (go_at_call 63; refine hp.mono ?_; clear hp; rintro e2 w2 ⟨rfl, hb2⟩)
        exact ⟨⟨k + 1, hk1, by go_num, HN.out, hb.out.trans (hb2.mono hb.out.size)⟩, by clear HN hb2; simp [intOf]; omega⟩
    · have HF := Lib.hid (show es.any p = false by rw [← hno.out, List.take_of_length_le (by have := HL.out; omega)])
      go_wp2_with (fail)
      go_ret
      exact ⟨_, rfl, by rw [HF.out]; rfl, hb.out⟩
theorem contQ_any {w : World} {B : Nat} {A : Option Addr} {n c : Nat} {es : List EV} (h : EntsAt w B A n c es) (hB : B ≤ w.heap.size) (bx : Nat) (p : EV → Bool) (hy : ∀ x ∈ es, ∀ wr, Below w.heap.size w wr → Calls Tryz.prog 63 #[.agg (evArr x), .pointer (some ⟨bx, 0, none⟩)] wr fun e w' => e = .returned (.bool (p x)) ∧ Below wr.heap.size wr w') :
    Calls Tryz.prog 60 #[.slice A n c, .func (.func 63) #[] #[.pointer (some ⟨bx, 0, none⟩)]] w fun e w' => e = .returned (.bool (es.any p)) ∧ Below w.heap.size w w' := by
  have hi := idxQ_any h hB bx p hy
  clear h hy
  generalize es.any p = v at *
  go_enter Tryz.func60, Tryz.ntmps60
  go_wp2_with (go_at_call 95; refine hi.mono ?_; clear hi; rintro e2 w2 ⟨r, rfl, hr, hb2⟩)
  go_ret
  exact ⟨by rw [← hr]; rfl, hb2⟩
theorem idxT_any {w : World} {B : Nat} {A : Option Addr} {n c : Nat} {l : List Txt} (h : Slc w B 1 A n c (l.map encStr)) (t : Txt) :
    Calls Tryz.prog 96 #[.slice A n c, .string ⟨t.toArray⟩] w fun e w' => ∃ r : Int, e = .returned (.int .i64 r) ∧ decide (0 ≤ r) = decide (t ∈ l) ∧ Below w.heap.size w w' := by
  have hn62 : n ≤ 9223372036854775807 := by have := h.le; have := h.cmax; unfold maxLen at this; omega
  have hlen : l.length = n := by have := h.len; simpa using this
  have H := Lib.hid h
  have HL := Lib.hid hlen
  have t1 : (ByteArray.mk t.toArray).toList = t := Go.ByteArray.toList_eq _
  clear h hlen
  go_enter Tryz.func96, Tryz.ntmps96
  go_wp2_with (fail)
  go_loopw [8] (fun i wr => ∃ k : Nat, k ≤ n ∧ i = .int .i64 (k : Int) ∧ Aside (t ∉ l.take k) ∧ Aside (∃ q, wr = w.drewN q)) (fun i _ => n - (intOf i).toNat)
  case atStart => exact ⟨0, Nat.zero_le _, rfl, (show t ∉ l.take 0 by simp), 0, rfl⟩
  case round =>
    obtain ⟨k, hk, rfl, hno, hb⟩ := hrel
    have hbw : ∀ B, Below B w wr := fun B => by obtain ⟨q0, hq0⟩ := hb.out; rw [hq0]; exact ⟨rfl, rfl, rfl, Nat.le_refl _, fun _ _ => rfl⟩
    by_cases hlt : k < n
    · obtain ⟨b, off, rfl, _, hl, c0⟩ := txtAt21 (H.out.below (hbw _)) hlt
      have HBW := Lib.hid (hbw w.heap.size)
      have HMEM := Lib.hid (show l[k] ∈ l from List.getElem_mem hl)
      have HTK := Lib.hid (List.take_succ_eq_append_getElem hl)
      generalize l[k] = x at *
      have t2 : (ByteArray.mk x.toArray).toList = x := Go.ByteArray.toList_eq _
      clear hbw
      cases h1 : (t == x) with
      | true =>
        have HX := Lib.hid (show t ∈ l by rw [show t = x by simpa using h1]; exact HMEM.out)
        go_wp2_with (fail)
        go_ret
        exact ⟨_, rfl, by rw [decide_eq_true HX.out]; exact decide_eq_true (by omega), HBW.out⟩
      | false =>
        have HX := Lib.hid (show t ∉ l.take (k + 1) by
          rw [HTK.out, List.mem_append, List.mem_singleton]
          rintro (h | h)
          · exact hno.out h
          · rw [h] at h1; simp at h1)
        have HD := Lib.hid hb.out
        go_wp2_with (fail)
        exact ⟨⟨k + 1, by omega, by go_num, HX.out, HD.out⟩, by simp [intOf]; omega⟩
    · have HF := Lib.hid (show t ∉ l by rw [← List.take_of_length_le (l := l) (i := k) (by have := HL.out; omega)]; exact hno.out)
      have HBW := Lib.hid (hbw w.heap.size)
      clear hbw
      go_wp2_with (fail)
      go_ret
      exact ⟨_, rfl, by rw [decide_eq_false HF.out]; rfl, HBW.out⟩
theorem contT_any {w : World} {B : Nat} {A : Option Addr} {n c : Nat} {l : List Txt} (h : Slc w B 1 A n c (l.map encStr)) (t : Txt) :
    Calls Tryz.prog 62 #[.slice A n c, .string ⟨t.toArray⟩] w fun e w' => e = .returned (.bool (decide (t ∈ l))) ∧ Below w.heap.size w w' := by
  have hi := idxT_any h t
  clear h
  generalize decide (t ∈ l) = v at *
  go_enter Tryz.func62, Tryz.ntmps62
  go_wp2_with (go_at_call 96; refine hi.mono ?_; clear hi; rintro e2 w2 ⟨r, rfl, hr, hb2⟩)
  go_ret
  exact ⟨by rw [← hr]; rfl, hb2⟩
/-- The closures. -/
theorem predR_any (u : SV) (name : Txt) (bn : Nat) (w : World) (hbn : w.cell? ⟨bn, 0, none⟩ = some (.string ⟨name.toArray⟩)) :
    Calls Tryz.prog 41 #[.agg (svArr u), .pointer (some ⟨bn, 0, none⟩)] w fun e w' => e = .returned (.bool (decide (u.name = name))) ∧ Below w.heap.size w w' := by
  have hlt : bn < w.heap.size := World.block_lt_of_cell? _ _ hbn
  have hb := bel_new w (.cells (svArr u) 59)
  have t2 : (ByteArray.mk name.toArray).toList = name := Go.ByteArray.toList_eq _
  unfold svArr at hb ⊢
  obtain ⟨un, us, ur, uA, un1, uc1, ua, uA2, un2, uc2⟩ := u
  have t1 : (ByteArray.mk un.toArray).toList = un := Go.ByteArray.toList_eq _
  simp only at hb ⊢
  cases h : (un == name) with
  | true =>
    have H := Lib.hid (show un = name by simpa using h)
    go_enter Tryz.func41, Tryz.ntmps41
    go_wp2
    go_ret
    exact ⟨by rw [decide_eq_true H.out]; rfl, hb⟩
  | false =>
    have H := Lib.hid (show ¬ un = name by simpa using h)
    go_enter Tryz.func41, Tryz.ntmps41
    go_wp2
    go_ret
    exact ⟨by rw [decide_eq_false H.out]; rfl, hb⟩
theorem predP_any (x : EV) (name : Txt) (bn : Nat) (w : World) (hbn : w.cell? ⟨bn, 0, none⟩ = some (.string ⟨name.toArray⟩)) :
    Calls Tryz.prog 61 #[.agg (evArr x), .pointer (some ⟨bn, 0, none⟩)] w fun e w' => e = .returned (.bool (decide (name = x.path))) ∧ Below w.heap.size w w' := by
  have hlt : bn < w.heap.size := World.block_lt_of_cell? _ _ hbn
  have hb := bel_new w (.cells (evArr x) 35)
  have t2 : (ByteArray.mk name.toArray).toList = name := Go.ByteArray.toList_eq _
  unfold evArr at hb ⊢
  obtain ⟨xp, xk, xd, xA, xn, xc⟩ := x
  have t1 : (ByteArray.mk xp.toArray).toList = xp := Go.ByteArray.toList_eq _
  simp only at hb ⊢
  cases h : (name == xp) with
  | true =>
    have H := Lib.hid (show name = xp by simpa using h)
    go_enter Tryz.func61, Tryz.ntmps61
    go_wp2
    go_ret
    exact ⟨by rw [decide_eq_true H.out]; rfl, hb⟩
  | false =>
    have H := Lib.hid (show ¬ name = xp by simpa using h)
    go_enter Tryz.func61, Tryz.ntmps61
    go_wp2
    go_ret
    exact ⟨by rw [decide_eq_false H.out]; rfl, hb⟩
end Go.Proofs.YtibndaianhlcaaaGreatDoor
