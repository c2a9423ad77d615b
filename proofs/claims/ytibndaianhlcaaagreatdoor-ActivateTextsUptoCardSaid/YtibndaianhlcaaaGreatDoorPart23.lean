/- activate.Right: may a system be? Contracts of the library laid at this dump. activate.same and activate.alike; the closure of Acts that looks for an entry. -/
import Derived.Test.YtibndaianhlcaaaGreatDoorPart22
import Derived.Test.YtibndaianhlcaaaGreatDoorPart10
import Derived.Shelf.Bytes.SlSearch0
import Derived.Shelf.LaysM
import Derived.Shelf.LaysC
import Derived.Ground.GgwProg
import Derived.Ground.SlgnProg
import Derived.Ground.SlgfProg
import Derived.Test.YtibndaianhlcaaaGreatDoorProg
namespace Go.Proofs.YtibndaianhlcaaaGreatDoor
open Go.RowKit Go.Sort Go.Shelf
set_option linter.unusedVariables false
set_option linter.unusedSimpArgs false

theorem mrun_start {w w2 : World} (hm : MachAt w2 (fun k => k = w.heap.size) w.heap.size newM) (hb2 : Below w.heap.size w w2) : MRun w w2.heap.size w2 (fun k => k = w.heap.size) w.heap.size newM := by
  have h9 := hm
  obtain ⟨fA, fn, fc, es, uA, un, uc, nA, nn, nc, us, pA, pn, pc, hv⟩ := h9
  have hlt : w.heap.size < w2.heap.size := hv.blk.lt
  exact ⟨hm, good_new, small_new, fun k hk => .inl hk, fun k hk => by omega, hb2, Nat.le_refl _, by omega, Nat.le_refl _⟩
theorem UnitsAt.head {w : World} {B : Nat} {A : Option Addr} {n c : Nat} {us : List SV} (h : UnitsAt w B A n c us) {k : Nat} (hk : k ≤ n) : UnitsAt w B A k c (us.take k) := by
  have hl := h.len
  refine ⟨⟨?_, by have := h.slc.le; omega, h.slc.cmax, fun hp => ?_⟩, by rw [List.length_take]; omega, fun u hu => h.req u (List.mem_of_mem_take hu), fun u hu => h.aft u (List.mem_of_mem_take hu)⟩
  · rw [flatMap_len svCells 4 _ (fun o _ => svCells_length o), List.length_take]
    omega
  · obtain ⟨b, off, e, hb, hc⟩ := h.slc.at_ (by omega)
    refine ⟨b, off, e, hb, fun j u hu => hc j u ?_⟩
    rw [← (flatMap_take svCells 4 us k (fun x _ => svCells_length x)).1, List.getElem?_take] at hu
    split at hu
    · exact hu
    · cases hu
theorem SmallU.act {u : SV} (h : SmallU u) : SmallA ⟨6, u.name, ev0, u⟩ := by
  refine ⟨⟨by show 0 ≤ 1000000000; omega, Nat.le_trans h.n (by decide), Nat.le_trans h.n2 (by decide)⟩, Nat.le_trans h.name (by decide), by show ([] : Txt).length ≤ _; simp, Nat.le_trans h.start (by decide), fun t ht => ?_⟩
  rcases List.mem_cons.1 ht with h1 | h1
  · rw [h1]; exact Nat.le_trans h.name (by decide)
  · exact Nat.le_trans (h.texts t h1) (by decide)
theorem apart_low {W : World} {B : Nat} {F : Nat → Prop} {u : SV} (h1 : Slc W B 1 u.A u.n u.c (u.req.map encStr)) (h2 : Slc W B 1 u.A2 u.n2 u.c2 (u.aft.map encStr)) (hF : ∀ k, F k → B ≤ k) : ActApart F ⟨6, u.name, ev0, u⟩ := by
  refine ⟨fun hn x hx hk => ?_, fun hn x hx hk => ?_⟩
  · obtain ⟨b, off, e, hb, _⟩ := h1.at_ hn
    have hx : u.A = some x := hx
    rw [e] at hx
    rw [← Option.some.inj hx] at hk
    have := hF _ hk
    simp only at this
    omega
  · obtain ⟨b, off, e, hb, _⟩ := h2.at_ hn
    have hx : u.A2 = some x := hx
    rw [e] at hx
    rw [← Option.some.inj hx] at hk
    have := hF _ hk
    simp only at this
    omega
theorem any_hasU (us : List SV) (n : Txt) : (us.any fun v => decide (v.name = n)) = hasU (us.map SV.srv) n := by
  unfold hasU
  rw [List.any_map]
  rfl
theorem rises_snoc {l : List Txt} {k : Nat} (hk : k < l.length) (h : (l.take k).Pairwise (· < ·)) (hl : ∀ (h0 : 0 < k), l[k - 1] < l[k]) : (l.take (k + 1)).Pairwise (· < ·) := by
  rw [List.take_succ_eq_append_getElem hk]
  refine List.pairwise_append.2 ⟨h, List.pairwise_singleton _ _, fun a ha b hb => ?_⟩
  rw [List.mem_singleton.1 hb]
  obtain ⟨i, hi, rfl⟩ := List.getElem_of_mem ha
  rw [List.length_take] at hi
  rw [List.getElem_take]
  have h0 : 0 < k := by omega
  have hlast := hl h0
  by_cases hik : i = k - 1
  · subst hik; exact hlast
  · have h2 := List.pairwise_iff_getElem.1 h i (k - 1) (by rw [List.length_take]; omega) (by rw [List.length_take]; omega) (by omega)
    rw [List.getElem_take, List.getElem_take] at h2
    exact txt_trans h2 hlast
theorem not_rises {l : List Txt} {k : Nat} (hk : k < l.length) (h0 : 0 < k) (h : ¬ l[k - 1] < l[k]) : ¬ l.Pairwise (· < ·) := fun hp => h (List.pairwise_iff_getElem.1 hp (k - 1) k (by omega) hk (by omega))
def rightF (s : SysP) (f z : Bool) (u : Bool) (p : Bool) (n t : Bool) : Bool := f && z && u && p && n && t
theorem right_false {s : SysP} (h : ¬ (rightB s.files = true ∧ s.users.length ≤ 16 ∧ s.units.length ≤ 24 ∧ (∀ n ∈ s.users, nameB n = true) ∧ s.users.Pairwise (· < ·) ∧ unitsOk [] s.units = true)) : rightS s = false := by
  cases hr : rightS s with
  | false => rfl
  | true =>
    obtain ⟨r1, r2, r3, r4, r5, r6, -⟩ := right_parts hr
    exact absurd ⟨r1, r2, r3, r4, r5, r6⟩ h
theorem right_true {s : SysP} (h1 : rightB s.files = true) (h2 : s.users.length ≤ 16) (h3 : s.units.length ≤ 24) (h4 : s.users.all nameB = true) (h5 : s.users.Pairwise (· < ·)) (h6 : unitsOk [] s.units = true) : rightS s = rightB (laidS s) := by
  unfold rightS
  rw [h1, decide_eq_true ⟨h2, h3⟩, h4, decide_eq_true h5, h6]
  rfl
theorem LaidAt.paths {w : World} {base : Nat} {A : Option Addr} {n c : Nat} {es : List EV} {s : SysP} (he : es.map EV.ent = laidS s) (hs : ∀ x ∈ s.files, x.path.length ≤ 1048576) : ∀ e ∈ es, e.path.length ≤ 1000000000 := fun e hee => by
  have hm : e.ent ∈ laidS s := by rw [← he]; exact List.mem_map.2 ⟨e, hee, rfl⟩
  unfold laidS at hm
  rcases List.mem_append.1 hm with hm | hm
  · obtain ⟨x, hx, e1⟩ := List.mem_map.1 hm
    have h2 := hs x hx
    have h3 : e.path = [101, 116, 99, 47] ++ x.path := (congrArg Ent.path e1).symm
    rw [h3, List.length_append]
    simp only [List.length_cons, List.length_nil]
    omega
  · have h3 : e.path = [115, 121, 115, 116, 101, 109] := congrArg Ent.path (List.mem_singleton.1 hm)
    rw [h3]
    decide
set_option maxRecDepth 100000 in
set_option maxHeartbeats 8000000 in
theorem right21_any {w : World} {B : Nat} {o : OV} (h : ObsAt w B o) (hB : B ≤ w.heap.size) (hs : SmallO o) :
    Calls Tryz.prog 15 #[.agg (ovArr o)] w fun e w' => e = .returned (.bool (rightS (sysO o))) ∧ Below w.heap.size w w' := by
  obtain ⟨W0, hW0⟩ : ∃ W0, W0 = w.alloc (.cells (ovArr o) 26) := ⟨_, rfl⟩
  have hb0 : Below w.heap.size w W0 := by rw [hW0]; exact bel_new _ _
  have hG0 : Blk W0 w.heap.size 26 (ovArr o) := by rw [hW0]; exact Blk.new _ _ _
  have hz0 : W0.heap.size = w.heap.size + 1 := by rw [hW0]; simp
  have h0 := h.below (hb0.mono hB)
  have HENT := Lib.hid (fun (W : World) (hb : Below w.heap.size w W) (h2 : o.n2 ≤ 16) (h3 : o.n3 ≤ 24) => entries21_any (h.below (hb.mono hB)) (Nat.le_trans hB hb.size) hs h2 h3)
  have hfl : ∀ x ∈ (sysO o).files, x.path.length ≤ 1048576 := fun x hx => by
    obtain ⟨e, he, rfl⟩ := List.mem_map.1 hx
    exact (hs.ents e he).1
  have hr := right_any h0.files (Nat.le_trans hB hb0.size) (fun e he => Nat.le_trans (hs.ents e he).1 (by decide))
  have HOV := Lib.hid h
  obtain ⟨A, n, c, es, A2, n2, c2, users, A3, n3, c3, us⟩ := o
  obtain ⟨h1, h2, h3⟩ := h
  simp only at h1 h2 h3 hr
  unfold ovArr at hW0 hG0 HENT ⊢
  simp only at hW0 hG0 HENT ⊢
  obtain ⟨s, hsd⟩ : ∃ s, s = sysO ⟨A, n, c, es, A2, n2, c2, users, A3, n3, c3, us⟩ := ⟨_, rfl⟩
  have hs1 : s.files = es.map EV.ent := by rw [hsd]; rfl
  have hs2 : s.users = users := by rw [hsd]; rfl
  have hs3 : s.units = us.map SV.srv := by rw [hsd]; rfl
  have HSD := Lib.hid hsd
  have HFS := Lib.hid (show ∀ x ∈ s.files, x.path.length ≤ 1048576 by rw [hsd]; exact hfl)
  rw [← hs1] at hr
  rw [← hsd]
  have HS1 := Lib.hid hs1
  have HS2 := Lib.hid hs2
  have HS3 := Lib.hid hs3
  have H2 := Lib.hid h2
  have H3 := Lib.hid h3
  have HSU := Lib.hid (show ∀ t ∈ users, t.length ≤ 1048576 from hs.users)
  have HSN := Lib.hid (show ∀ u ∈ us, SmallU u from hs.units)
  have HL2 := Lib.hid (show users.length = n2 by have := h2.len; simpa using this)
  have HL3 := Lib.hid h3.len
  have HB := Lib.hid hB
  have HB0 := Lib.hid hb0
  have HG0 := Lib.hid hG0
  have HZ0 := Lib.hid hz0
  have HW0 := Lib.hid hW0
  rw [hW0] at hr
  have hn2 : n2 ≤ 1048576 := hs.n2
  have hn3 : n3 ≤ 1048576 := hs.n3
  clear h0 h1 h2 h3 hs hB hb0 hG0 hz0 hW0 hsd hs1 hs2 hs3 hfl
  cases hf : rightB s.files with
  | false =>
    have HX := Lib.hid (right_false (s := s) (fun hq => by rw [hf] at hq; exact absurd hq.1 (by decide)))
    rw [hf] at hr
    clear hf
    go_enter Tryz.func15, Tryz.ntmps15
    go_wp2_with (go_at_call 38; refine hr.mono ?_; clear hr; rintro e2 w2 ⟨rfl, hb2⟩; rw [← HW0.out] at hb2)
    go_ret
    exact ⟨by rw [HX.out]; rfl, HB0.out.trans (hb2.mono HB0.out.size)⟩
  | true =>
    have HF := Lib.hid hf
    rw [hf] at hr
    clear hf
    by_cases hsz : n2 ≤ 16 ∧ n3 ≤ 24
    case neg =>
      have HX := Lib.hid (right_false (s := s) (fun hq => hsz ⟨by have := hq.2.1; rw [HS2.out, HL2.out] at this; exact this, by have := hq.2.2.1; rw [HS3.out, List.length_map, HL3.out] at this; exact this⟩))
      have hfin : ∀ w2, Below W0.heap.size W0 w2 → w2.cell? ⟨w.heap.size, 1, none⟩ = some (.slice A2 n2 c2) ∧ w2.cell? ⟨w.heap.size, 2, none⟩ = some (.slice A3 n3 c3) := fun w2 hb => ⟨(HG0.out.below hb HG0.out.lt).cell 1, (HG0.out.below hb HG0.out.lt).cell 2⟩
      have HFIN := Lib.hid hfin
      clear hfin
      by_cases h16 : n2 ≤ 16
      · have h24 : 24 < n3 := by omega
        clear hsz
        go_enter Tryz.func15, Tryz.ntmps15
        go_wp2_with (go_at_call 38; refine hr.mono ?_; clear hr; rintro e2 w2 ⟨rfl, hb2⟩; rw [← HW0.out] at hb2; obtain ⟨k1, k2⟩ := HFIN.out w2 hb2)
        go_ret
        exact ⟨by rw [HX.out]; rfl, HB0.out.trans (hb2.mono HB0.out.size)⟩
      · clear hsz
        go_enter Tryz.func15, Tryz.ntmps15
        go_wp2_with (go_at_call 38; refine hr.mono ?_; clear hr; rintro e2 w2 ⟨rfl, hb2⟩; rw [← HW0.out] at hb2; obtain ⟨k1, k2⟩ := HFIN.out w2 hb2)
        go_ret
        exact ⟨by rw [HX.out]; rfl, HB0.out.trans (hb2.mono HB0.out.size)⟩
    case pos =>
      obtain ⟨h16, h24⟩ := hsz
      have hfin : ∀ w2, Below W0.heap.size W0 w2 → w2.cell? ⟨w.heap.size, 1, none⟩ = some (.slice A2 n2 c2) ∧ w2.cell? ⟨w.heap.size, 2, none⟩ = some (.slice A3 n3 c3) := fun w2 hb => ⟨(HG0.out.below hb HG0.out.lt).cell 1, (HG0.out.below hb HG0.out.lt).cell 2⟩
      have HFIN := Lib.hid hfin
      clear hfin
      go_enter Tryz.func15, Tryz.ntmps15
      go_wp2_with (go_at_call 38; refine hr.mono ?_; clear hr; rintro e2 w2 ⟨rfl, hb2⟩; rw [← HW0.out] at hb2; obtain ⟨k1, k2⟩ := HFIN.out w2 hb2)
      go_loopw [27] (fun i wr => ∃ k : Nat, k ≤ n2 ∧ i = .int .i64 (k : Int) ∧ Aside ((users.take k).all nameB = true) ∧ Aside ((users.take k).Pairwise (· < ·)) ∧ Aside (Below W0.heap.size W0 wr)) (fun i _ => n2 - (intOf i).toNat)
      case atStart => exact ⟨0, Nat.zero_le _, rfl, rfl, (show List.Pairwise _ (users.take 0) by simp), hb2⟩
      case round =>
        obtain ⟨k, hk, rfl, hall, hpw, hb⟩ := hrel
        obtain ⟨q1, q2⟩ := HFIN.out wr hb.out
        have hbw := HB0.out.trans (hb.out.mono HB0.out.size)
        by_cases hlt : k < n2
        · obtain ⟨b, off, rfl, hbB, hl, c0⟩ := txtAt21 (H2.out.below (hbw.mono HB.out)) hlt
          have hbl : b < wr.heap.size := Nat.lt_of_lt_of_le hbB (Nat.le_trans HB.out hbw.size)
          have hnm := name_any ⟨users[k].toArray⟩ wr (by rw [bsz_mk]; have := HSU.out _ (List.getElem_mem hl); unfold maxLen; omega)
          rw [show (ByteArray.mk users[k].toArray).data.toList = users[k] from by simp] at hnm
          have HSX := Lib.hid (fun hb : nameB users[k] = true => show (users.take (k + 1)).all nameB = true by rw [List.take_succ_eq_append_getElem hl, List.all_append, hall.out, List.all_cons, hb]; rfl)
          have HNX := Lib.hid (fun hb : nameB users[k] = false => right_false (s := s) (fun hq => by
            have := hq.2.2.2.1 users[k] (by rw [HS2.out]; exact List.getElem_mem hl)
            rw [hb] at this
            exact absurd this (by decide)))
          have HRX := Lib.hid (fun hp => rises_snoc hl hpw.out hp)
          have HRF := Lib.hid (fun (h0 : 0 < k) (hp : ¬ users[k - 1] < users[k]) => right_false (s := s) (fun hq => not_rises hl h0 hp (HS2.out ▸ hq.2.2.2.2.1)))
          have HKK := Lib.hid (fun (W : World) (hW : Below wr.heap.size wr W) => show W.cell? ⟨w.heap.size, 1, none⟩ = some (.slice (some ⟨b, off, none⟩) n2 c2) from (HFIN.out W (hb.out.trans (hW.mono hb.out.size))).1)
          have HBW := Lib.hid hbw
          have HBR := Lib.hid hb.out
          have HKB := Lib.hid hk
          clear hbw hb hall hpw k1 k2
          cases hnb : nameB users[k] with
          | false =>
            have HX := Lib.hid (HNX.out hnb)
            rw [hnb] at hnm
            clear hnb HSX HNX HRX HRF
            generalize users[k] = t at *
            go_wp2_with (go_at_call 39; refine hnm.mono ?_; clear hnm; rintro e3 w3 ⟨rfl, hb3⟩)
            go_ret
            exact ⟨by rw [HX.out]; rfl, HBW.out.trans (hb3.mono HBW.out.size)⟩
          | true =>
            have HX := Lib.hid (HSX.out hnb)
            rw [hnb] at hnm
            clear hnb HSX HNX
            by_cases h0 : 0 < k
            · obtain ⟨m, rfl⟩ : ∃ m, k = m + 1 := ⟨k - 1, by omega⟩
              obtain ⟨b', off', hA, _, hml, d0⟩ := txtAt21 (H2.out.below (HBW.out.mono HB.out)) (k := m) (by omega)
              obtain ⟨rfl, rfl, -⟩ := Addr.mk.inj (Option.some.inj hA)
              have hm1 : m + 1 - 1 = m := by omega
              have HP := Lib.hid (show users[m + 1 - 1] = users[m] by congr 1)
              have HRX2 := Lib.hid (fun hp : users[m] < users[m + 1] => HRX.out (fun _ => hp))
              have HRF2 := Lib.hid (fun hp : ¬ users[m] < users[m + 1] => HRF.out (by omega) hp)
              clear HRX HRF HP
              generalize users[m] = t' at *
              generalize users[m + 1] = t at *
              have hcmp := less_str t' t
              have hwm : IntKind.i64.wrap (((m + 1 : Nat) : Int) - 1) = (m : Int) := by rw [IntWalk.i64_in _ (by omega)]; omega
              have hmn : m < n2 := by omega
              have hcmp2 := bytesLess_txt t' t
              by_cases hlp : t' < t
              · have HR := Lib.hid (HRX2.out hlp)
                rw [decide_eq_true hlp] at hcmp hcmp2
                clear hlp HRX2 HRF2
                go_wp2_with (go_at_call 39; refine hnm.mono ?_; clear hnm; rintro e3 w3 ⟨rfl, hb3⟩; have e0 := (hb3.cell (p := ⟨b, off + (m + 1), none⟩) hbl).trans c0; have e1 := (hb3.cell (p := ⟨b, off + m, none⟩) hbl).trans d0; have e2 := HKK.out _ hb3)
                exact ⟨⟨m + 1 + 1, by omega, by go_num, HX.out, HR.out, HBR.out.trans (hb3.mono HBR.out.size)⟩, by simp [intOf]; omega⟩
              · have HR := Lib.hid (HRF2.out hlp)
                rw [decide_eq_false hlp] at hcmp hcmp2
                clear hlp HRX2 HRF2
                go_wp2_with (go_at_call 39; refine hnm.mono ?_; clear hnm; rintro e3 w3 ⟨rfl, hb3⟩; have e0 := (hb3.cell (p := ⟨b, off + (m + 1), none⟩) hbl).trans c0; have e1 := (hb3.cell (p := ⟨b, off + m, none⟩) hbl).trans d0; have e2 := HKK.out _ hb3)
                go_ret
                exact ⟨by rw [HR.out]; rfl, HBW.out.trans (hb3.mono HBW.out.size)⟩
            · obtain rfl : k = 0 := by omega
              have HR := Lib.hid (HRX.out (fun h9 => absurd h9 (by decide)))
              clear HRX HRF
              rw [Nat.add_zero] at c0
              generalize users[0] = t at *
              go_wp2_with (go_at_call 39; refine hnm.mono ?_; clear hnm; rintro e3 w3 ⟨rfl, hb3⟩; have e0 := (hb3.cell (p := ⟨b, off, none⟩) hbl).trans c0; have e2 := HKK.out _ hb3)
              exact ⟨⟨1, by omega, by go_num, HX.out, HR.out, HBR.out.trans (hb3.mono HBR.out.size)⟩, by simp [intOf]; omega⟩
        · obtain rfl : k = n2 := by omega
          have HALL := Lib.hid (show s.users.all nameB = true by rw [HS2.out, ← hall.out, List.take_of_length_le (by have := HL2.out; omega)])
          have HPW := Lib.hid (show s.users.Pairwise (· < ·) by have := hpw.out; rw [List.take_of_length_le (by have := HL2.out; omega)] at this; rw [HS2.out]; exact this)
          have HBR := Lib.hid hb.out
          have hnew := new_any wr
          clear hall hpw hb k1 k2
          go_wp2_with (go_at_call 20; refine hnew.mono ?_; clear hnew; rintro e3 w3 ⟨rfl, hm3, hb3⟩; have hR := mrun_start hm3 hb3; have k2 := (HFIN.out w3 (HBR.out.trans (hb3.mono HBR.out.size))).2; have HR3 := Lib.hid hR; clear hm3 hb3 hR)
          have HKW := Lib.hid (fun (W : World) (hW : Below wr.heap.size wr W) => show Below w.heap.size w W ∧ Blk W w.heap.size 26 #[.slice A n c, .slice A2 k c2, .slice A3 n3 c3] from
            ⟨hbw.trans (hW.mono hbw.size), HG0.out.below (HBR.out.trans (hW.mono HBR.out.size)) HG0.out.lt⟩)
          have HUL := Lib.hid (show (us.map SV.srv).length = n3 by rw [List.length_map, HL3.out])
          have HUX := Lib.hid (fun (m : Nat) (hm : m < (us.map SV.srv).length) (hbad : ¬ (mayU (us.map SV.srv)[m] = true ∧ hasU ((us.map SV.srv).take m) (us.map SV.srv)[m].name = false ∧ (us.map SV.srv)[m].req.all (hasU ((us.map SV.srv).take m)) = true)) => right_false (s := s) (fun hq => hbad (by
            have h9 := units_ok_at s.units [] hq.2.2.2.2.2 ((us.map SV.srv).take m) ((us.map SV.srv)[m]) ((us.map SV.srv).drop (m + 1)) (by rw [HS3.out, List.getElem_cons_drop, List.take_append_drop])
            rwa [List.nil_append] at h9)))
          have HWL := Lib.hid (Nat.le_trans HB.out hbw.size)
          clear hbw
          go_loopw [54] (fun i wr' => ∃ m : Nat, m ≤ n3 ∧ i = .int .i64 (m : Int) ∧ Aside (unitsOk [] ((us.map SV.srv).take m) = true) ∧ Aside (∃ F, MRun wr w3.heap.size wr' F wr.heap.size ⟨[], [], (us.map SV.srv).take m, []⟩)) (fun i _ => n3 - (intOf i).toNat)
          case atStart => exact ⟨0, Nat.zero_le _, rfl, rfl, _, HR3.out⟩
          case round =>
            obtain ⟨m, hm, rfl, hok, hrun⟩ := hrel
            obtain ⟨F, hR⟩ := hrun.out
            obtain ⟨hbw, hbox⟩ := HKW.out _ hR.bel
            have k2 := hbox.cell 2
            simp only [List.getElem?_toArray, List.getElem?_cons_zero, List.getElem?_cons_succ] at k2
            by_cases hlt : m < n3
            · obtain ⟨b, off, rfl, hbB, hl, c0, c1, c2', c3', hS1, hS2⟩ := (H3.out.below (hbw.mono HB.out)).at_ hlt
              have hul : m < (us.map SV.srv).length := by rw [HUL.out]; exact hlt
              have hbl : b < wr.heap.size := Nat.lt_of_lt_of_le hbB (Nat.le_trans HB.out hbw.size)
              have HUE := Lib.hid (show (us.map SV.srv)[m] = us[m].srv by rw [List.getElem_map])
              have HTK := Lib.hid (show (us.map SV.srv).take (m + 1) = (us.map SV.srv).take m ++ [us[m].srv] by rw [List.take_succ_eq_append_getElem hul, HUE.out])
              have HOK := Lib.hid (show ∀ (h9 : mayU us[m].srv = true ∧ hasU ((us.map SV.srv).take m) us[m].srv.name = false ∧ us[m].srv.req.all (hasU ((us.map SV.srv).take m)) = true), unitsOk [] ((us.map SV.srv).take (m + 1)) = true from fun h9 => by
                rw [HTK.out, units_ok_snoc, hok.out, List.nil_append, h9.1, h9.2.1, h9.2.2]; rfl)
              have hux := HUX.out m hul
              rw [HUE.out] at hux
              have HUX9 := Lib.hid hux
              have hsu := HSN.out _ (List.getElem_mem hl)
              have hUH := ((H3.out.below (hbw.mono HB.out)).head hm)
              have HSN9 := Lib.hid (start_new (U := (us.map SV.srv).take m) (u := us[m].srv))
              have hml : ((us.map SV.srv).take m).length < 24 := by rw [List.length_take, HUL.out]; omega
              have hany : (us.take m).any (fun v => decide (v.name = us[m].srv.name)) = hasU ((us.map SV.srv).take m) us[m].srv.name := by rw [any_hasU, List.map_take]
              generalize us[m] = u at *
              obtain ⟨W1, hW1⟩ : ∃ W1, W1 = wr.alloc (.cells (svArr u) 59) := ⟨_, rfl⟩
              have hb1 : Below wr.heap.size wr W1 := by rw [hW1]; exact bel_new _ _
              have hG1 : Blk W1 wr.heap.size 59 (svArr u) := by rw [hW1]; exact Blk.new _ _ _
              have hwb : B ≤ wr.heap.size := Nat.le_trans HB.out hbw.size
              have hc := contR_any (w := W1) (hUH.below (hb1.mono hwb)) (Nat.le_trans hwb hb1.size) wr.heap.size (fun v => decide (v.name = u.srv.name)) (fun x _ W hW => predR_any x u.name wr.heap.size W ((hG1.below hW hG1.lt).cell 0))
              rw [hany] at hc
              have HLD := Lib.hid (fun (W : World) (hW : Below W1.heap.size W1 W) => show W.cell? ⟨wr.heap.size, 0, none⟩ = some (.string ⟨u.name.toArray⟩) ∧ W.cell? ⟨wr.heap.size, 1, none⟩ = some (.string ⟨u.start.toArray⟩) ∧ W.cell? ⟨wr.heap.size, 2, none⟩ = some (.slice u.A u.n u.c) ∧ W.cell? ⟨wr.heap.size, 3, none⟩ = some (.slice u.A2 u.n2 u.c2) from ⟨(hG1.below hW hG1.lt).cell 0, (hG1.below hW hG1.lt).cell 1, (hG1.below hW hG1.lt).cell 2, (hG1.below hW hG1.lt).cell 3⟩)
              have HDO := Lib.hid (fun (W : World) (hW : Below W1.heap.size W1 W) => (hR.below (hb1.trans (hW.mono hb1.size))).do_ (a := ⟨6, u.name, ev0, u⟩) (C := B) ⟨slc_none _ _ _, hS1.below ((hb1.trans (hW.mono hb1.size)).mono hwb), hS2.below ((hb1.trans (hW.mono hb1.size)).mono hwb)⟩ (Nat.le_trans hwb (hb1.trans (hW.mono hb1.size)).size) hsu.act (apart_low hS1 hS2 (fun k9 h9 => by have := hR.low k9 h9; have := HWL.out; omega)))
              have HRN := Lib.hid (fun (W : World) (hW : Below W1.heap.size W1 W) => hR.below (hb1.trans (hW.mono hb1.size)))
              have HBX := Lib.hid (fun (W : World) (hW : Below W1.heap.size W1 W) => show Below w.heap.size w W from hbw.trans ((hb1.trans (hW.mono hb1.size)).mono hbw.size))
              have HST := Lib.hid (fun (W : World) => started21_any (w := W) u)
              have HSP := Lib.hid (show SmallP (startA u.srv) from ⟨by show ([] : Txt).length ≤ _; simp, by show u.req.length ≤ _ ∧ u.aft.length ≤ _; have a1 := hS1.len; have a2 := hS2.len; have a3 := hsu.n; have a4 := hsu.n2; simp at a1 a2; omega⟩)
              have HNM := Lib.hid (show u.srv.name = u.name from rfl)
              have hwl : w.heap.size < wr.heap.size := hbox.lt
              have hmc : m ≤ c3 := by have := H3.out.slc.le; omega
              have hmc2 : (m : Int) ≤ (c3 : Int) := by omega
              have HRR := Lib.hid hR.bel
              cases hh : hasU ((us.map SV.srv).take m) u.srv.name with
              | true =>
                have HX := Lib.hid (HUX9.out (fun h9 => by rw [hh] at h9; exact absurd h9.2.1 (by decide)))
                rw [hh] at hc
                have HW1 := Lib.hid hW1
                rw [hW1] at hc
                unfold svArr at hc
                clear hh hany hG1 hW1 hR hrun hS1 hS2 hsu hUH hux hml
                go_wp2_with (go_at_call 40; refine hc.mono ?_; clear hc; rintro e4 w4 ⟨rfl, hb4⟩; have HB4 := Lib.hid (show Below w.heap.size w w4 from HBX.out w4 (by rw [HW1.out]; exact hb4)); clear hb4)
                go_ret
                exact ⟨by rw [HX.out]; rfl, HB4.out⟩
              | false =>
                have HSN8 := Lib.hid (HSN9.out hh hml)
                rw [hh] at hc
                have HH := Lib.hid hh
                have HW1 := Lib.hid hW1
                rw [hW1] at hc
                unfold svArr at hc
                clear hh hany hG1 hW1 hR hrun hS1 hS2 hsu hUH hux hml
                cases hres : (mayU u.srv && u.srv.req.all (hasU ((us.map SV.srv).take m))) with
                | true =>
                  have hres2 := hres
                  rw [Bool.and_eq_true] at hres2
                  have HX := Lib.hid (HOK.out ⟨hres2.1, HH.out, hres2.2⟩)
                  have HRES := Lib.hid (show doM ⟨[], [], (us.map SV.srv).take m, []⟩ (startA u.srv) = (⟨[], [], (us.map SV.srv).take (m + 1), []⟩, 0) by rw [HSN8.out, if_pos hres, HTK.out])
                  have HRES2 := Lib.hid (show (doM ⟨[], [], (us.map SV.srv).take m, []⟩ (startA u.srv)).2 = 0 from congrArg Prod.snd HRES.out)
                  clear hres hres2
                  go_wp2_with (first
                  | (go_at_call 40; refine hc.mono ?_; clear hc; rintro e4 w4 ⟨rfl, hb4⟩; have hb4' := (show Below (wr.alloc (.cells (svArr u) 59)).heap.size (wr.alloc (.cells (svArr u) 59)) w4 from hb4); rw [← HW1.out] at hb4'; obtain ⟨y0, y1, y2, y3⟩ := HLD.out w4 hb4'; have hst := HST.out w4; have HB4 := Lib.hid hb4'; unfold svArr at hst; clear hb4 hb4')
                  | (go_at_call 43; refine hst.mono ?_; clear hst; rintro e5 w5 ⟨rfl, hb5⟩; have hb5' := HB4.out.trans (hb5.mono HB4.out.size); have hdo := HDO.out w5 hb5'; have HR5 := Lib.hid (HRN.out w5 hb5'); have HB5 := Lib.hid (HBX.out w5 hb5'); unfold avArr at hdo; unfold avArr; clear hb5 hb5')
                  | (go_at_call 42; refine hdo.mono ?_; clear hdo; intro e6 w6 hq; obtain ⟨rfl, h6, st6⟩ := HR5.out.did HSP.out hq; rw [HRES.out] at h6; have H6 := Lib.hid h6; clear h6 hq; rw [HRES2.out]))
                  exact ⟨⟨m + 1, by omega, by go_num, HX.out, _, H6.out⟩, by simp [intOf]; omega⟩
                | false =>
                  have HX := Lib.hid (HUX9.out (fun h9 => by rw [Bool.and_eq_false_iff] at hres; rcases hres with hres | hres; rw [h9.1] at hres; cases hres; rw [h9.2.2] at hres; cases hres))
                  have HRES := Lib.hid (show doM ⟨[], [], (us.map SV.srv).take m, []⟩ (startA u.srv) = (⟨[], [], (us.map SV.srv).take m, []⟩, 70) by rw [HSN8.out, if_neg (by rw [hres]; decide)])
                  have HRES2 := Lib.hid (show (doM ⟨[], [], (us.map SV.srv).take m, []⟩ (startA u.srv)).2 = 70 from congrArg Prod.snd HRES.out)
                  clear hres
                  go_wp2_with (first
                  | (go_at_call 40; refine hc.mono ?_; clear hc; rintro e4 w4 ⟨rfl, hb4⟩; have hb4' := (show Below (wr.alloc (.cells (svArr u) 59)).heap.size (wr.alloc (.cells (svArr u) 59)) w4 from hb4); rw [← HW1.out] at hb4'; obtain ⟨y0, y1, y2, y3⟩ := HLD.out w4 hb4'; have hst := HST.out w4; have HB4 := Lib.hid hb4'; unfold svArr at hst; clear hb4 hb4')
                  | (go_at_call 43; refine hst.mono ?_; clear hst; rintro e5 w5 ⟨rfl, hb5⟩; have hb5' := HB4.out.trans (hb5.mono HB4.out.size); have hdo := HDO.out w5 hb5'; have HR5 := Lib.hid (HRN.out w5 hb5'); have HB5 := Lib.hid (HBX.out w5 hb5'); unfold avArr at hdo; unfold avArr; clear hb5 hb5')
                  | (go_at_call 42; refine hdo.mono ?_; clear hdo; intro e6 w6 hq; obtain ⟨rfl, h6, st6⟩ := HR5.out.did HSP.out hq; rw [HRES.out] at h6; have H6 := Lib.hid h6; clear h6 hq; rw [HRES2.out]))
                  go_ret
                  exact ⟨by rw [HX.out]; rfl, (HKW.out _ H6.out.bel).1⟩
            · obtain rfl : m = n3 := by omega
              have HEQ := Lib.hid (show rightS s = rightB (laidS s) from right_true HF.out (by rw [HS2.out, HL2.out]; exact h16) (by rw [HS3.out, HUL.out]; exact h24) HALL.out HPW.out (by rw [HS3.out, ← hok.out, List.take_of_length_le (by rw [HUL.out]; exact Nat.le_refl _)]))
              have hent := HENT.out wr hbw h16 h24
              have hk0 := hbox.cell 0
              have hk1 := hbox.cell 1
              simp only [List.getElem?_toArray, List.getElem?_cons_zero, List.getElem?_cons_succ] at hk0 hk1
              have HBW := Lib.hid hbw
              clear hrun hR hbox hbw hok
              go_wp2_with (first
                | (go_at_call 37; refine hent.mono ?_; clear hent; rintro e4 w4 ⟨A', n', c', es', fs, x, rfl, -, hes, hla, -, hb4⟩; rw [← HSD.out] at hes; have hri := right_any hla.ents (Nat.le_refl _) (LaidAt.paths (w := w4) (base := wr.heap.size) (A := A') (n := n') (c := c') hes HFS.out); rw [hes, ← HEQ.out] at hri; have HB4 := Lib.hid (HBW.out.trans (hb4.mono HBW.out.size)); clear hes hla hb4)
                | (go_at_call 38; refine hri.mono ?_; clear hri; rintro e5 w5 ⟨rfl, hb5⟩))
              go_ret
              exact ⟨rfl, HB4.out.trans (hb5.mono HB4.out.size)⟩
end Go.Proofs.YtibndaianhlcaaaGreatDoor
namespace Go.Proofs
open Go.Shelf
def Tryz.lays115_ren : Go.Shelf.Ren := ⟨fun | 115 => 92 | n => n, fun | 37 => 33 | 4 => 4 | 9 => 9 | 5 => 5 | n => n, fun | n => n⟩
theorem Tryz.lays115 : Go.Proofs.Lays.n115 Tryz.prog Tryz.lays115_ren := {
  mixed := by kernel_rfl
  f115 := Tryz.func92.trans (congrArg some (by kernel_rfl))
  t4 := Tryz.underlying4
  a4 := Tryz.isAgg4
  z4 := Tryz.sizeOf4
  v4 := Tryz.zeroValue4
  t9 := Tryz.underlying9
  a9 := Tryz.isAgg9
  z9 := Tryz.sizeOf9
  v9 := Tryz.zeroValue9
  t37 := Tryz.underlying33
  a37 := Tryz.isAgg33
  z37 := Tryz.sizeOf33
  v37 := Tryz.zeroValue33 }
open Go.Proofs Go.RowKit Go.Lib in
/-- bytes.Equal, each argument with what 'string(..)' of it gives. (LAID: no walk: one application.) -/
theorem Tryz.bytes_Equal_strs (v1 v2 : Value) (t1 t2 : ByteArray) (w : World) (h1 : (convert 33 9 v1).run Tryz.prog w = .ok (.string t1) w) (h2 : (convert 33 9 v2).run Tryz.prog w = .ok (.string t2) w) :
    Calls Tryz.prog 92 #[v1, v2] w fun e w' => e = .returned (.bool (t1.toList == t2.toList)) ∧ w' = w := Any.bytes_Equal_strs Tryz.lays115 v1 v2 t1 t2 w h1 h2
end Go.Proofs
namespace Go.Proofs.YtibndaianhlcaaaGreatDoor
open Go.RowKit Go.Sort Go.Shelf
set_option linter.unusedVariables false
set_option linter.unusedSimpArgs false

set_option maxRecDepth 100000 in
set_option maxHeartbeats 1000000 in
theorem alike21_any {w : World} {B : Nat} (a b : SV) (a1 : Slc w B 1 a.A a.n a.c (a.req.map encStr)) (a2 : Slc w B 1 a.A2 a.n2 a.c2 (a.aft.map encStr)) (b1 : Slc w B 1 b.A b.n b.c (b.req.map encStr)) (b2 : Slc w B 1 b.A2 b.n2 b.c2 (b.aft.map encStr)) (hB : B ≤ w.heap.size) :
    Calls Tryz.prog 51 #[.agg (svArr a), .agg (svArr b)] w fun e w' => e = .returned (.bool (decide (a.srv = b.srv))) ∧ Below w.heap.size w w' := by
  obtain ⟨an, asx, ar, aA, an1, ac1, aa, aA2, an2, ac2⟩ := a
  obtain ⟨bn, bsx, br, bA, bn1, bc1, ba, bA2, bn2, bc2⟩ := b
  simp only at a1 a2 b1 b2
  have hb1 : Below w.heap.size w ((w.alloc (.cells #[.string ⟨an.toArray⟩, .string ⟨asx.toArray⟩, .slice aA an1 ac1, .slice aA2 an2 ac2] 59)).alloc (.cells #[.string ⟨bn.toArray⟩, .string ⟨bsx.toArray⟩, .slice bA bn1 bc1, .slice bA2 bn2 bc2] 59)) := ((Below.refl _ w).alloc (Nat.le_refl _) _).alloc (by simp) _
  have he1 := eqS_any (a1.below (hb1.mono hB)) (b1.below (hb1.mono hB))
  have he2 : ∀ q, _ := fun q => eqS_any (a2.below (bel_drewN (hb1.mono hB) q)) (b2.below (bel_drewN (hb1.mono hB) q))
  have HB1 := Lib.hid hb1
  have HE2 := Lib.hid he2
  have HS := Lib.hid (show ((⟨an, asx, ar, aa⟩ : Srv) = ⟨bn, bsx, br, ba⟩) ↔ (an = bn ∧ asx = bsx ∧ ar = br ∧ aa = ba) by simp)
  have t1 : (ByteArray.mk an.toArray).toList = an := Go.ByteArray.toList_eq _
  have t2 : (ByteArray.mk bn.toArray).toList = bn := Go.ByteArray.toList_eq _
  have t3 : (ByteArray.mk asx.toArray).toList = asx := Go.ByteArray.toList_eq _
  have t4 : (ByteArray.mk bsx.toArray).toList = bsx := Go.ByteArray.toList_eq _
  clear a1 a2 b1 b2 hb1 he2
  show Calls _ _ _ _ fun e w' => e = .returned (.bool (decide ((⟨an, asx, ar, aa⟩ : Srv) = ⟨bn, bsx, br, ba⟩))) ∧ Below w.heap.size w w'
  unfold svArr
  cases h1 : (an == bn) with
  | false =>
    have H := Lib.hid (show decide ((⟨an, asx, ar, aa⟩ : Srv) = ⟨bn, bsx, br, ba⟩) = false from decide_eq_false (fun h => by have := (HS.out.1 h).1; simp [this] at h1))
    go_enter Tryz.func51, Tryz.ntmps51
    go_wp2
    go_ret
    exact ⟨by rw [H.out]; rfl, HB1.out⟩
  | true =>
    cases h2 : (asx == bsx) with
    | false =>
      have H := Lib.hid (show decide ((⟨an, asx, ar, aa⟩ : Srv) = ⟨bn, bsx, br, ba⟩) = false from decide_eq_false (fun h => by have := (HS.out.1 h).2.1; simp [this] at h2))
      go_enter Tryz.func51, Tryz.ntmps51
      go_wp2
      go_ret
      exact ⟨by rw [H.out]; rfl, HB1.out⟩
    | true =>
      cases h3 : decide (ar = br) with
      | false =>
        have H := Lib.hid (show decide ((⟨an, asx, ar, aa⟩ : Srv) = ⟨bn, bsx, br, ba⟩) = false from decide_eq_false (fun h => by have := (HS.out.1 h).2.2.1; simp [this] at h3))
        rw [h3] at he1
        go_enter Tryz.func51, Tryz.ntmps51
        go_wp2_with (go_at_call 49; refine he1.mono ?_; clear he1; rintro e w1 ⟨rfl, q, rfl⟩)
        go_ret
        exact ⟨by rw [H.out]; rfl, bel_drewN HB1.out q⟩
      | true =>
        have H := Lib.hid (show decide ((⟨an, asx, ar, aa⟩ : Srv) = ⟨bn, bsx, br, ba⟩) = decide (aa = ba) from decide_eq_decide.2 ⟨fun h => (HS.out.1 h).2.2.2, fun h => HS.out.2 ⟨by simpa using h1, by simpa using h2, of_decide_eq_true h3, h⟩⟩)
        rw [h3] at he1
        go_enter Tryz.func51, Tryz.ntmps51
        go_wp2_with (go_at_call 49; first
          | (refine he1.mono ?_; clear he1; rintro e w1 ⟨rfl, q, rfl⟩; have he2 := HE2.out q)
          | (refine he2.mono ?_; clear he2; rintro e w2 ⟨rfl, q2, rfl⟩))
        go_ret
        exact ⟨by rw [H.out]; rfl, bel_drewN HB1.out _⟩
theorem equal21_any {w : World} {B B' : Nat} {A A' : Option Addr} {n n' c c' : Nat} {s t : Txt} (h : Slc w B 1 A n c (s.map bv)) (h' : Slc w B' 1 A' n' c' (t.map bv)) {x : Bool} (hx : (s == t) = x) :
    Calls Tryz.prog 92 #[.slice A n c, .slice A' n' c'] w fun e w' => e = .returned (.bool x) ∧ w' = w := by
  have h1 := convert_bytes (P := Tryz.prog) (src := 33) Tryz.underlying33 Tryz.underlying5 h 9 Tryz.underlying9
  have h2 := convert_bytes (P := Tryz.prog) (src := 33) Tryz.underlying33 Tryz.underlying5 h' 9 Tryz.underlying9
  have h3 := Tryz.bytes_Equal_strs _ _ _ _ w h1 h2
  rwa [Go.ByteArray.toList_eq, Go.ByteArray.toList_eq, hx] at h3
set_option maxRecDepth 100000 in
set_option maxHeartbeats 1000000 in
theorem same21_any {w : World} {B B' : Nat} (a b : EV) (ha : Slc w B 1 a.A a.n a.c (a.data.map bv)) (hb : Slc w B' 1 b.A b.n b.c (b.data.map bv)) (hB : B ≤ w.heap.size) (hB' : B' ≤ w.heap.size) :
    Calls Tryz.prog 48 #[.agg (evArr a), .agg (evArr b)] w fun e w' => e = .returned (.bool (decide (a.ent = b.ent))) ∧ Below w.heap.size w w' := by
  obtain ⟨ap, ak, ad, aA, an, ac⟩ := a
  obtain ⟨bp, bk, bd, bA, bn, bc⟩ := b
  simp only at ha hb
  have hb1 : Below w.heap.size w ((w.alloc (.cells #[.string ⟨ap.toArray⟩, .int .i64 ak, .slice aA an ac] 35)).alloc (.cells #[.string ⟨bp.toArray⟩, .int .i64 bk, .slice bA bn bc] 35)) := ((Below.refl _ w).alloc (Nat.le_refl _) _).alloc (by simp) _
  have HE := Lib.hid (fun (x : Bool) (hx : (ad == bd) = x) => equal21_any (ha.below (hb1.mono hB)) (hb.below (hb1.mono hB')) (x := x) hx)
  have HB1 := Lib.hid hb1
  have HS := Lib.hid (show ((⟨ap, ak, ad⟩ : Ent) = ⟨bp, bk, bd⟩) ↔ (ap = bp ∧ ak = bk ∧ ad = bd) by simp)
  have t1 : (ByteArray.mk ap.toArray).toList = ap := Go.ByteArray.toList_eq _
  have t2 : (ByteArray.mk bp.toArray).toList = bp := Go.ByteArray.toList_eq _
  clear ha hb hb1
  show Calls _ _ _ _ fun e w' => e = .returned (.bool (decide ((⟨ap, ak, ad⟩ : Ent) = ⟨bp, bk, bd⟩))) ∧ Below w.heap.size w w'
  unfold evArr
  cases h1 : (ap == bp) with
  | false =>
    have H := Lib.hid (show decide ((⟨ap, ak, ad⟩ : Ent) = ⟨bp, bk, bd⟩) = false from decide_eq_false (fun h => by have := (HS.out.1 h).1; simp [this] at h1))
    go_enter Tryz.func48, Tryz.ntmps48
    go_wp2
    go_ret
    exact ⟨by rw [H.out]; rfl, HB1.out⟩
  | true =>
    cases h2 : (ak == bk) with
    | false =>
      have H := Lib.hid (show decide ((⟨ap, ak, ad⟩ : Ent) = ⟨bp, bk, bd⟩) = false from decide_eq_false (fun h => by have := (HS.out.1 h).2.1; simp [this] at h2))
      go_enter Tryz.func48, Tryz.ntmps48
      go_wp2
      go_ret
      exact ⟨by rw [H.out]; rfl, HB1.out⟩
    | true =>
      obtain ⟨x, hx⟩ : ∃ x, (ad == bd) = x := ⟨_, rfl⟩
      have H := Lib.hid (show decide ((⟨ap, ak, ad⟩ : Ent) = ⟨bp, bk, bd⟩) = x by
        rw [← hx]
        rw [Bool.eq_iff_iff, decide_eq_true_iff, HS.out, beq_iff_eq]
        exact ⟨fun h => h.2.2, fun h => ⟨by simpa using h1, by simpa using h2, h⟩⟩)
      have hc := HE.out x hx
      clear hx
      go_enter Tryz.func48, Tryz.ntmps48
      go_wp2_with (go_at_call 92; refine hc.mono ?_; clear hc; rintro e w1 ⟨rfl, rfl⟩)
      go_ret
      exact ⟨by rw [H.out]; rfl, HB1.out⟩
/-- The closure that looks for an entry that is the same. -/
theorem predQ_any {w : World} {B B' : Nat} (x y : EV) (bx : Nat) (hx : Slc w B 1 x.A x.n x.c (x.data.map bv)) (hy : Slc w B' 1 y.A y.n y.c (y.data.map bv)) (hB : B ≤ w.heap.size) (hB' : B' ≤ w.heap.size) (hbx : Blk w bx 35 (evArr x)) :
    Calls Tryz.prog 63 #[.agg (evArr y), .pointer (some ⟨bx, 0, none⟩)] w fun e w' => e = .returned (.bool (decide (x.ent = y.ent))) ∧ Below w.heap.size w w' := by
  have hb1 := bel_new w (.cells (evArr y) 35)
  have hc := same21_any (w := w.alloc (.cells (evArr y) 35)) x y (hx.below (hb1.mono hB)) (hy.below (hb1.mono hB')) (Nat.le_trans hB hb1.size) (Nat.le_trans hB' hb1.size)
  have hlt := hbx.lt
  have b0 := hbx.cell 0
  have b1 := hbx.cell 1
  have b2 := hbx.cell 2
  have HB1 := Lib.hid hb1
  unfold evArr at hc b0 b1 b2 ⊢
  simp only [List.getElem?_toArray, List.getElem?_cons_zero, List.getElem?_cons_succ] at b0 b1 b2
  generalize decide (x.ent = y.ent) = v at *
  clear hb1 hx hy hbx
  go_enter Tryz.func63, Tryz.ntmps63
  go_wp2_with (go_at_call 48; refine hc.mono ?_; clear hc; rintro e w1 ⟨rfl, hb2⟩)
  go_ret
  exact ⟨rfl, HB1.out.trans (hb2.mono HB1.out.size)⟩
end Go.Proofs.YtibndaianhlcaaaGreatDoor
