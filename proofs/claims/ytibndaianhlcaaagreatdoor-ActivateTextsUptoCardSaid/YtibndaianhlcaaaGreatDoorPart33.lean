/- The walk of the reference's Right (bootjackref08). The reference's may (bootjackref21). The reference's decimal (bootjackref21). bootjackref21.lines: a unit's lines, as the document's answer has them; bootjacklaw21.copied. -/
import Derived.Test.YtibndaianhlcaaaGreatDoorPart32
import Derived.Test.YtibndaianhlcaaaGreatDoorPart27
import Derived.Test.YtibndaianhlcaaaGreatDoorPart7
import Derived.Test.YtibndaianhlcaaaGreatDoorPart28
import Derived.Test.YtibndaianhlcaaaGreatDoorPart22
import Derived.Test.YtibndaianhlcaaaGreatDoorPart13
namespace Go.Proofs.YtibndaianhlcaaaGreatDoor
open Go.RowKit Go.Sort
set_option linter.unusedVariables false
set_option linter.unusedSimpArgs false

theorem aheadB_ge {a b : Txt} (h : ¬ a < b) : aheadB a b = false := by unfold aheadB; rw [decide_eq_false h]; rfl
theorem prefix_cut (a b : Txt) : (a ++ [47]).isPrefixOf b = true ↔ b.take (a.length + 1) = a ++ [47] := by
  rw [List.isPrefixOf_iff_prefix, List.prefix_iff_eq_take, List.length_append]
  exact ⟨fun h => h.symm, fun h => h.symm⟩
theorem aheadB_cut {a b : Txt} (h : b.take (a.length + 1) = a ++ [47]) : aheadB a b = false := by unfold aheadB; rw [(prefix_cut a b).2 h]; simp
theorem aheadB_ok {a b : Txt} (h : a < b) (h2 : b.take (a.length + 1) ≠ a ++ [47]) : aheadB a b = true := by
  unfold aheadB
  rw [decide_eq_true h]
  cases hp : (a ++ [47]).isPrefixOf b with
  | true => exact absurd ((prefix_cut a b).1 hp) h2
  | false => rfl
def aheadTo (l : List Ent) (x : Ent) (j : Nat) : Bool := (l.take j).all fun y => aheadB y.path x.path
theorem aheadTo_succ (l : List Ent) (x : Ent) (j : Nat) (h : j < l.length) : aheadTo l x (j + 1) = (aheadTo l x j && aheadB l[j].path x.path) := by
  unfold aheadTo
  rw [List.take_succ_eq_append_getElem h, List.all_append]
  simp
theorem fits_to (l : List Ent) (i : Nat) (x : Ent) : fitsB l i x = (entryB x && aheadTo l x i) := rfl

set_option maxRecDepth 100000 in
set_option maxHeartbeats 2000000 in
theorem refRight08_any {w : World} {B : Nat} {A : Option Addr} {n c : Nat} {es : List EV} (h : EntsAt w B A n c es) (hB : B ≤ w.heap.size) (hp : ∀ e ∈ es, e.path.length ≤ 1000000000) :
    Calls Tryz.prog 44 #[.slice A n c] w fun e w' => e = .returned (.bool (rightB (es.map EV.ent))) ∧ Below w.heap.size w w' := by
  obtain ⟨l, hl⟩ : ∃ l, l = es.map EV.ent := ⟨_, rfl⟩
  have hll : l.length = n := by rw [hl, List.length_map, h.len]
  rw [← hl]
  have hnc := h.slc.le
  have hcm := h.slc.cmax
  have hn62 : n ≤ 9223372036854775807 := by unfold maxLen at hcm; omega
  by_cases h24 : 24 < n
  · have HG := Lib.hid (show rightB l = false by unfold rightB; rw [decide_eq_false (by omega)]; rfl)
    clear h hl hp hll
    go_enter Tryz.func44, Tryz.ntmps44
    go_wp2
    go_ret
    exact ⟨by rw [HG.out]; rfl, Below.refl _ _⟩
  have hn24 : n ≤ 24 := by omega
  have HG := Lib.hid (show rightB l = rightTo l l.length by unfold rightB; rw [decide_eq_true (by omega)]; rfl)
  have HBAD := Lib.hid (fun (k : Nat) (hk : k < l.length) (h : fitsB l k l[k] = false) => rightB_false (l := l) hk (fun _ => h))
  have H := Lib.hid h
  have HP := Lib.hid hp
  have HL := Lib.hid hl
  have HLL := Lib.hid hll
  clear h hp hl hll
  go_enter Tryz.func44, Tryz.ntmps44
  go_wp2_with (fail)
  go_loopw [3] (fun i wr => ∃ (k : Nat), k ≤ n ∧ i = .int .i64 (k : Int) ∧ Aside (rightTo l k = true) ∧ Aside (Below w.heap.size w wr)) (fun i _ => n - (intOf i).toNat)
  case atStart => exact ⟨0, Nat.zero_le _, rfl, rightTo_zero l, Below.refl _ _⟩
  case round =>
    obtain ⟨k, hk, rfl, hr, hb⟩ := hrel
    by_cases hlt : k < n
    · obtain ⟨b, off, rfl, hbB, hkl, c0, c1, c2, hS⟩ := (H.out.below (hb.out.mono hB)).at_ hlt
      have hkl' : k < l.length := by rw [HLL.out]; exact hlt
      have HLK := Lib.hid (show l[k] = es[k].ent by have := HL.out; subst this; exact ents_get hkl hkl')
      have hpl := HP.out _ (List.getElem_mem hkl)
      have HBK := Lib.hid (HBAD.out k hkl')
      rw [HLK.out] at HBK
      have HNX := Lib.hid (rightTo_succ l k hkl')
      rw [HLK.out] at HNX
      generalize es[k] = e at *
      have hone := refOne_any (w := wr) e hS (Nat.le_trans hB hb.out.size) hpl
      unfold evArr at hone
      have hbl : b < wr.heap.size := Nat.lt_of_lt_of_le hbB (Nat.le_trans hB hb.out.size)
      have HBB := Lib.hid hb.out
      clear hS hb
      cases hev : entryB e.ent with
      | false =>
        have HX := Lib.hid (HBK.out (by rw [fits_to, hev]; rfl))
        rw [hev] at hone
        clear hev
        go_wp2_with (go_at_call 91; refine hone.mono ?_; clear hone; rintro e2 w2 ⟨rfl, hb2⟩)
        go_ret
        exact ⟨by rw [HX.out]; rfl, HBB.out.trans (hb2.mono HBB.out.size)⟩
      | true =>
        rw [hev] at hone
        have HNO := Lib.hid (fun (j : Nat) (hjk : j < k) (hj : j < l.length) (ha : aheadB l[j].path e.ent.path = false) => HBK.out (fits_at (l := l) (k := j) hjk hj ha))
        have HOK := Lib.hid (fun (ha : aheadTo l e.ent k = true) => show rightTo l (k + 1) = true by rw [HNX.out, hr.out, fits_to, hev, ha]; rfl)
        clear hev
        go_wp2_with (go_at_call 91; refine hone.mono ?_; clear hone; rintro e2 w2 ⟨rfl, hb2⟩; have f0 := (hb2.cell (p := ⟨b, off + k * 3, none⟩) hbl).trans c0)
        have HB2 := Lib.hid (HBB.out.trans (hb2.mono HBB.out.size))
        clear hb2
        go_loop [5] (fun i => ∃ (j : Nat), j ≤ k ∧ i = .int .i64 (j : Int) ∧ Aside (aheadTo l e.ent j = true)) (fun i => k - (intOf i).toNat)
        case atStart => exact ⟨0, Nat.zero_le _, rfl, rfl⟩
        case round =>
          obtain ⟨j, hj, rfl, hah⟩ := hrel
          by_cases hjk : j < k
          · obtain ⟨bj, offj, hA, _, hjl, g0, _, _, _⟩ := (H.out.below (HB2.out.mono hB)).at_ (k := j) (by omega)
            injection hA with hA
            injection hA with e1 e2
            subst e1 e2
            have hjl' : j < l.length := by rw [HLL.out]; omega
            have hyl := HP.out _ (List.getElem_mem hjl)
            have HLJ := Lib.hid (show l[j] = es[j].ent by have := HL.out; subst this; exact ents_get hjl hjl')
            have HNJ := Lib.hid (HNO.out j hjk hjl')
            have HSJ := Lib.hid (aheadTo_succ l e.ent j hjl')
            rw [HLJ.out] at HNJ HSJ
            generalize es[j] = y at *
            have hjn : j < n := by omega
            have hcmp := less_str y.path e.path
            have hcmp2 := bytesLess_txt y.path e.path
            have hn1 : ¬ 9223372036854775807 < y.path.length + 1 := by omega
            have hyl2 : y.path.length + 1 ≤ 9223372036854775807 := by omega
            have hpl2 : e.path.length ≤ 9223372036854775807 := by omega
            have hex := ext_list e.path 0 (y.path.length + 1)
            rw [List.drop_zero, Nat.sub_zero] at hex
            have htl : ((⟨y.path.toArray⟩ : ByteArray) ++ ⟨#[47]⟩).toList = y.path ++ [47] := by rw [Go.ByteArray.toList_eq]; simp
            by_cases hlp : y.path < e.path
            case neg =>
              have HX := Lib.hid (HNJ.out (aheadB_ge hlp))
              rw [decide_eq_false hlp] at hcmp hcmp2
              clear hlp hex
              go_wp2_with (fail)
              go_ret
              exact ⟨by rw [HX.out]; rfl, HB2.out⟩
            rw [decide_eq_true hlp] at hcmp hcmp2
            by_cases hlen : y.path.length < e.path.length
            · by_cases hcut : e.path.take (y.path.length + 1) = y.path ++ [47]
              · have HX := Lib.hid (HNJ.out (aheadB_cut hcut))
                rw [hcut] at hex
                clear hlp hcut
                go_wp2_with (fail)
                go_ret
                exact ⟨by rw [HX.out]; rfl, HB2.out⟩
              · have HX := Lib.hid (show aheadTo l e.ent (j + 1) = true by rw [HSJ.out, hah.out]; exact aheadB_ok hlp hcut)
                have hcb : (e.path.take (y.path.length + 1) == y.path ++ [47]) = false := by simpa using hcut
                clear hlp hcut
                go_wp2_with (fail)
                exact ⟨⟨j + 1, by omega, by go_num, HX.out⟩, by simp [intOf]; omega⟩
            · have hcut : e.path.take (y.path.length + 1) ≠ y.path ++ [47] := fun h => by
                have := congrArg List.length h
                simp only [List.length_take, List.length_append, List.length_cons, List.length_nil] at this
                omega
              have HX := Lib.hid (show aheadTo l e.ent (j + 1) = true by rw [HSJ.out, hah.out]; exact aheadB_ok hlp hcut)
              clear hlp hcut hex
              go_wp2_with (fail)
              exact ⟨⟨j + 1, by omega, by go_num, HX.out⟩, by simp [intOf]; omega⟩
          · obtain rfl : j = k := by omega
            have HX := Lib.hid (HOK.out hah.out)
            go_wp2_with (fail)
            exact ⟨⟨j + 1, by omega, by go_num, HX.out, HB2.out⟩, by simp [intOf]; omega⟩
    · obtain rfl : k = n := by omega
      have HR := Lib.hid (show rightB l = true by rw [HG.out, HLL.out]; exact hr.out)
      go_wp2
      go_ret
      exact ⟨by rw [HR.out]; rfl, hb.out⟩
end Go.Proofs.YtibndaianhlcaaaGreatDoor
namespace Go.Proofs.YtibndaianhlcaaaGreatDoor
open Go.RowKit Go.Sort Go.Shelf
set_option linter.unusedVariables false
set_option linter.unusedSimpArgs false

theorem bare_cases (p k0 n0 : Bool) : p = false ∨ (p = true ∧ k0 = false) ∨ (p = true ∧ k0 = true ∧ n0 = false) ∨ (p = true ∧ k0 = true ∧ n0 = true) := by cases p <;> cases k0 <;> cases n0 <;> simp
theorem idle_cases (un us r a : Bool) : un = false ∨ (un = true ∧ us = false) ∨ (un = true ∧ us = true ∧ r = false) ∨ (un = true ∧ us = true ∧ r = true ∧ a = false) ∨ (un = true ∧ us = true ∧ r = true ∧ a = true) := by cases un <;> cases us <;> cases r <;> cases a <;> simp
/-- The tests of a step that may not be for its file or its unit. -/
theorem refempty_cases {w : World} {B : Nat} {a : AV} (h : ActAt w B a) (he : emptyA a.act = false) :
    ((a.kind == 4) = false ∧ ((a.file.path == []) = false ∨ ((a.file.path == []) = true ∧ (a.file.kind == 0) = false) ∨ ((a.file.path == []) = true ∧ (a.file.kind == 0) = true ∧ ((a.file.n : Int) == 0) = false))) ∨
    ((((a.file.path == []) = true ∧ (a.file.kind == 0) = true ∧ ((a.file.n : Int) == 0) = true) ∨ (a.kind == 4) = true) ∧ (a.kind == 6) = false ∧ ((a.unit.name == []) = false ∨ ((a.unit.name == []) = true ∧ (a.unit.start == []) = false) ∨ ((a.unit.name == []) = true ∧ (a.unit.start == []) = true ∧ ((a.unit.n : Int) == 0) = false) ∨ ((a.unit.name == []) = true ∧ (a.unit.start == []) = true ∧ ((a.unit.n : Int) == 0) = true ∧ ((a.unit.n2 : Int) == 0) = false))) := by
  rw [← emptyV_act h] at he
  have hls : (((a.unit.n : Int) + (a.unit.n2 : Int)) == 0) = (((a.unit.n : Int) == 0) && ((a.unit.n2 : Int) == 0)) := by
    rw [Bool.eq_iff_iff, Bool.and_eq_true, beq_iff_eq, beq_iff_eq, beq_iff_eq]
    omega
  rw [hls] at he
  unfold emptyV at he
  generalize (a.kind == 4) = k4 at *
  generalize (a.file.path == []) = p at *
  generalize (a.file.kind == 0) = k0 at *
  generalize ((a.file.n : Int) == 0) = n0 at *
  generalize (a.kind == 6) = k6 at *
  generalize (a.unit.name == []) = un at *
  generalize (a.unit.start == []) = us at *
  generalize ((a.unit.n : Int) == 0) = r at *
  generalize ((a.unit.n2 : Int) == 0) = q at *
  clear hls
  cases k4 <;> cases p <;> cases k0 <;> cases n0 <;> cases k6 <;> cases un <;> cases us <;> cases r <;> cases q <;> simp_all
set_option maxRecDepth 100000 in
set_option maxHeartbeats 4000000 in
theorem refMayN_any {w : World} {B : Nat} (a : AV) (hact : ActAt w B a) (h : emptyA a.act = false) :
    Calls Tryz.prog 75 #[.agg (avArr a)] w fun e w' => e = .returned (.bool false) ∧ Below w.heap.size w w' := by
  have hcs := refempty_cases hact h
  have hb := bel_new w (.cells (avArr a) 61)
  obtain ⟨kind, name, ⟨p, fk, fd, fA, fn, fc⟩, ⟨un, us, rq, uA, u1, uc, af, uB, u2, ud⟩⟩ := a
  unfold avArr at hb ⊢
  simp only at hb hcs ⊢
  have t1 : (ByteArray.mk p.toArray).toList = p := Go.ByteArray.toList_eq _
  have t2 : (ByteArray.mk un.toArray).toList = un := Go.ByteArray.toList_eq _
  have t3 : (ByteArray.mk us.toArray).toList = us := Go.ByteArray.toList_eq _
  have HB := Lib.hid hb
  clear hb hact h
  rcases hcs with ⟨h4, hb⟩ | ⟨hb, h6, hi⟩
  · have h4n : ¬ kind = 4 := beq_eq_false_iff_ne.1 h4
    have hi := idle_cases (un == []) (us == []) ((u1 : Int) == 0) ((u2 : Int) == 0)
    rcases hb with h1 | ⟨h1, h2⟩ | ⟨h1, h2, h3⟩
    all_goals rcases hi with g1 | ⟨g1, g2⟩ | ⟨g1, g2, g3⟩ | ⟨g1, g2, g3, g4⟩ | ⟨g1, g2, g3, g4⟩
    all_goals
      go_enter Tryz.func75, Tryz.ntmps75
      go_wp2_with (fail)
      go_ret
      exact ⟨rfl, HB.out⟩
  · have h6n : ¬ kind = 6 := beq_eq_false_iff_ne.1 h6
    by_cases hb4 : (kind == 4) = true
    · obtain rfl : kind = 4 := by simpa using hb4
      have hb := bare_cases (p == []) (fk == 0) ((fn : Int) == 0)
      rcases hb with h1 | ⟨h1, h2⟩ | ⟨h1, h2, h3⟩ | ⟨h1, h2, h3⟩
      all_goals rcases hi with g1 | ⟨g1, g2⟩ | ⟨g1, g2, g3⟩ | ⟨g1, g2, g3, g4⟩
      all_goals
        go_enter Tryz.func75, Tryz.ntmps75
        go_wp2_with (fail)
        go_ret
        exact ⟨rfl, HB.out⟩
    · obtain ⟨h1, h2, h3⟩ := hb.resolve_right hb4
      rcases hi with g1 | ⟨g1, g2⟩ | ⟨g1, g2, g3⟩ | ⟨g1, g2, g3, g4⟩
      all_goals
        go_enter Tryz.func75, Tryz.ntmps75
        go_wp2_with (fail)
        go_ret
        exact ⟨rfl, HB.out⟩
set_option maxRecDepth 100000 in
set_option maxHeartbeats 4000000 in
theorem refMayP_any {w : World} {eA : Option Addr} {ec : Nat} {uA : Option Addr} {uc : Nat} {uB : Option Addr} {ud : Nat} (kind : Int) (name : Txt) (hk : kind = 1 ∨ kind = 3 ∨ kind = 5) (hl : name.length ≤ 1000000000) :
    Calls Tryz.prog 75 #[.agg (avArr ⟨kind, name, ev1 eA ec, sv1 uA uc uB ud⟩)] w fun e w' => e = .returned (.bool (nameB name)) ∧ Below w.heap.size w w' := by
  have hb := bel_new w (.cells (avArr ⟨kind, name, ev1 eA ec, sv1 uA uc uB ud⟩) 61)
  have hnm := refName_any ⟨name.toArray⟩ (w.alloc (.cells (avArr ⟨kind, name, ev1 eA ec, sv1 uA uc uB ud⟩) 61)) (by rw [bsz_mk]; unfold maxLen; omega)
  rw [show (ByteArray.mk name.toArray).data.toList = name from rfl] at hnm
  have HB := Lib.hid hb
  unfold avArr ev1 sv1 at hnm ⊢
  simp only at hnm ⊢
  clear hb
  rcases hk with rfl | rfl | rfl
  all_goals
    go_enter Tryz.func75, Tryz.ntmps75
    go_wp2_with (go_at_call 45; refine hnm.mono ?_; clear hnm; rintro e2 w2 ⟨rfl, hb2⟩)
    go_ret
    exact ⟨rfl, HB.out.trans (hb2.mono HB.out.size)⟩
theorem refMayO_any {w : World} {eA : Option Addr} {ec : Nat} {uA : Option Addr} {uc : Nat} {uB : Option Addr} {ud : Nat} (kind : Int) (name : Txt) (n1 : kind ≠ 1) (n2 : kind ≠ 2) (n3 : kind ≠ 3) (n4 : kind ≠ 4) (n5 : kind ≠ 5) (n6 : kind ≠ 6) :
    Calls Tryz.prog 75 #[.agg (avArr ⟨kind, name, ev1 eA ec, sv1 uA uc uB ud⟩)] w fun e w' => e = .returned (.bool false) ∧ Below w.heap.size w w' := by
  have hb := bel_new w (.cells (avArr ⟨kind, name, ev1 eA ec, sv1 uA uc uB ud⟩) 61)
  unfold avArr ev1 sv1 at hb ⊢
  simp only at hb ⊢
  have k1 : (kind == 1) = false := by rw [beq_eq_false_iff_ne]; exact n1
  have k2 : (kind == 2) = false := by rw [beq_eq_false_iff_ne]; exact n2
  have k3 : (kind == 3) = false := by rw [beq_eq_false_iff_ne]; exact n3
  have k4 : (kind == 4) = false := by rw [beq_eq_false_iff_ne]; exact n4
  have k5 : (kind == 5) = false := by rw [beq_eq_false_iff_ne]; exact n5
  have k6 : (kind == 6) = false := by rw [beq_eq_false_iff_ne]; exact n6
  have HB := Lib.hid hb
  clear hb n1 n2 n3 n4 n5 n6
  go_enter Tryz.func75, Tryz.ntmps75
  go_wp2_with (fail)
  go_ret
  exact ⟨rfl, HB.out⟩
set_option maxRecDepth 100000 in
set_option maxHeartbeats 4000000 in
theorem refMayR_any {w : World} {eA : Option Addr} {ec : Nat} {uA : Option Addr} {uc : Nat} {uB : Option Addr} {ud : Nat} (name : Txt) (hl : name.length ≤ 1000000000) :
    Calls Tryz.prog 75 #[.agg (avArr ⟨2, name, ev1 eA ec, sv1 uA uc uB ud⟩)] w fun e w' => e = .returned (.bool (rightB [⟨name, 1, []⟩])) ∧ Below w.heap.size w w' := by
  have hb := bel_new w (.cells (avArr ⟨2, name, ev1 eA ec, sv1 uA uc uB ud⟩) 61)
  obtain ⟨W1, hW1⟩ : ∃ W1, W1 = w.alloc (.cells (avArr ⟨2, name, ev1 eA ec, sv1 uA uc uB ud⟩) 61) := ⟨_, rfl⟩
  have hri := refRight08_any (w := W1.alloc (.cells #[.string ⟨name.toArray⟩, .int .i64 1, .slice none 0 0] 35)) (ent_one (d := []) (Blk.new W1 35 #[.string ⟨name.toArray⟩, .int .i64 1, .slice none 0 0]) (slc_none _ W1.heap.size _) (by omega)) (by simp) (fun e he => by rw [List.mem_singleton.1 he]; exact hl)
  rw [show ([⟨name, 1, [], none, 0, 0⟩] : List EV).map EV.ent = [⟨name, 1, []⟩] from rfl, hW1] at hri
  have HB := Lib.hid hb
  have HB9 := Lib.hid ((bel_new w (.cells (avArr ⟨2, name, ev1 eA ec, sv1 uA uc uB ud⟩) 61)).alloc (by simp) (.cells #[.string ⟨name.toArray⟩, .int .i64 1, .slice none 0 0] 35))
  unfold avArr ev1 sv1 at hri ⊢
  simp only [World.size_alloc] at hri ⊢
  clear hb hW1
  go_enter Tryz.func75, Tryz.ntmps75
  go_wp2_with (go_at_call 44; refine hri.mono ?_; clear hri; rintro e2 w2 ⟨rfl, hb2⟩)
  go_ret
  exact ⟨rfl, HB9.out.trans (hb2.mono (by omega))⟩
set_option maxRecDepth 100000 in
set_option maxHeartbeats 4000000 in
theorem refMayF_any {w : World} {B : Nat} {uA : Option Addr} {uc : Nat} {uB : Option Addr} {ud : Nat} (name : Txt) (f : EV) (hact : ActAt w B ⟨4, name, f, sv1 uA uc uB ud⟩) (hB : B ≤ w.heap.size) (hl : f.path.length ≤ 1000000000) :
    Calls Tryz.prog 75 #[.agg (avArr ⟨4, name, f, sv1 uA uc uB ud⟩)] w fun e w' => e = .returned (.bool (decide (name = f.path) && rightB [f.ent])) ∧ Below w.heap.size w w' := by
  have hb := bel_new w (.cells (avArr ⟨4, name, f, sv1 uA uc uB ud⟩) 61)
  obtain ⟨W1, hW1⟩ : ∃ W1, W1 = w.alloc (.cells (avArr ⟨4, name, f, sv1 uA uc uB ud⟩) 61) := ⟨_, rfl⟩
  obtain ⟨p, fk, fd, fA, fn, fc⟩ := f
  have hd := hact.data
  simp only at hd hl
  have hri := refRight08_any (w := W1.alloc (.cells #[.string ⟨p.toArray⟩, .int .i64 fk, .slice fA fn fc] 35)) (ent_one (d := fd) (Blk.new W1 35 #[.string ⟨p.toArray⟩, .int .i64 fk, .slice fA fn fc]) (hd.below (by rw [hW1]; exact (hb.mono hB).alloc (by simp; omega) _)) (by rw [hW1]; simp; omega)) (by simp) (fun e he => by rw [List.mem_singleton.1 he]; exact hl)
  rw [show ([⟨p, fk, fd, fA, fn, fc⟩] : List EV).map EV.ent = [⟨p, fk, fd⟩] from rfl, hW1] at hri
  have HB := Lib.hid hb
  have HB9 := Lib.hid ((bel_new w (.cells (avArr ⟨4, name, ⟨p, fk, fd, fA, fn, fc⟩, sv1 uA uc uB ud⟩) 61)).alloc (by simp) (.cells #[.string ⟨p.toArray⟩, .int .i64 fk, .slice fA fn fc] 35))
  unfold avArr sv1 at hri ⊢
  simp only [World.size_alloc] at hri ⊢
  have t1 : (ByteArray.mk p.toArray).toList = p := Go.ByteArray.toList_eq _
  have t2 : (ByteArray.mk name.toArray).toList = name := Go.ByteArray.toList_eq _
  clear hb hW1 hact hd hB
  have hbc := bare_cases (p == []) (fk == 0) ((fn : Int) == 0)
  by_cases hnp : name = p
  · have he : (name == p) = true := by rw [beq_iff_eq]; exact hnp
    have HX := Lib.hid (show (decide (name = p) && rightB [(⟨p, fk, fd⟩ : Ent)]) = rightB [(⟨p, fk, fd⟩ : Ent)] by rw [decide_eq_true hnp]; rfl)
    clear hnp
    rcases hbc with h1 | ⟨h1, h2⟩ | ⟨h1, h2, h3⟩ | ⟨h1, h2, h3⟩
    all_goals
      go_enter Tryz.func75, Tryz.ntmps75
      go_wp2_with (go_at_call 44; refine hri.mono ?_; clear hri; rintro e2 w2 ⟨rfl, hb2⟩)
      go_ret
      exact ⟨congrArg (fun b => Ending.returned (Value.bool b)) HX.out.symm, HB9.out.trans (hb2.mono (by omega))⟩
  · have he : (name == p) = false := by rw [beq_eq_false_iff_ne]; exact hnp
    have HX := Lib.hid (show (decide (name = p) && rightB [(⟨p, fk, fd⟩ : Ent)]) = false by rw [decide_eq_false hnp]; rfl)
    clear hnp hri
    rcases hbc with h1 | ⟨h1, h2⟩ | ⟨h1, h2, h3⟩ | ⟨h1, h2, h3⟩
    all_goals
      go_enter Tryz.func75, Tryz.ntmps75
      go_wp2_with (fail)
      go_ret
      exact ⟨congrArg (fun b => Ending.returned (Value.bool b)) HX.out.symm, HB.out⟩
set_option maxRecDepth 100000 in
set_option maxHeartbeats 4000000 in
theorem refMayU_any {w : World} {B : Nat} {eA : Option Addr} {ec : Nat} (nm0 : Txt) (u : SV) (h1 : Slc w B 1 u.A u.n u.c (u.req.map encStr)) (h2 : Slc w B 1 u.A2 u.n2 u.c2 (u.aft.map encStr)) (hB : B ≤ w.heap.size) (hs : SmallX u) :
    Calls Tryz.prog 75 #[.agg (avArr ⟨6, nm0, ev1 eA ec, u⟩)] w fun e w' => e = .returned (.bool (decide (nm0 = u.name) && mayU u.srv)) ∧ Below w.heap.size w w' := by
  have hb := bel_new w (.cells (avArr ⟨6, nm0, ev1 eA ec, u⟩) 61)
  have hmu := refMay_any (w := w.alloc (.cells (avArr ⟨6, nm0, ev1 eA ec, u⟩) 61)) u (h1.below (hb.mono hB)) (h2.below (hb.mono hB)) (Nat.le_trans hB hb.size) ⟨Nat.le_trans hs.n (by decide), Nat.le_trans hs.n2 (by decide)⟩ (fun t ht => by
    rcases List.mem_cons.1 ht with h | h
    · rw [h]; exact Nat.le_trans hs.name (by decide)
    · exact Nat.le_trans (hs.texts t h) (by decide)) (Nat.le_trans hs.start (by decide))
  obtain ⟨nm, st, rq, A, n, c, af, A2, n2, c2⟩ := u
  have HB := Lib.hid hb
  unfold avArr svArr ev1 at hmu
  unfold avArr ev1
  simp only at hmu ⊢
  have t1 : (ByteArray.mk nm.toArray).toList = nm := Go.ByteArray.toList_eq _
  have t2 : (ByteArray.mk nm0.toArray).toList = nm0 := Go.ByteArray.toList_eq _
  have t3 : (ByteArray.mk st.toArray).toList = st := Go.ByteArray.toList_eq _
  have hic := idle_cases (nm == []) (st == []) ((n : Int) == 0) ((n2 : Int) == 0)
  clear hb h1 h2 hB hs
  by_cases hnp : nm0 = nm
  · have he : (nm0 == nm) = true := by rw [beq_iff_eq]; exact hnp
    have HX := Lib.hid (show (decide (nm0 = nm) && mayU ⟨nm, st, rq, af⟩) = mayU ⟨nm, st, rq, af⟩ by rw [decide_eq_true hnp]; rfl)
    clear hnp
    rcases hic with h1 | ⟨h1, h2⟩ | ⟨h1, h2, h3⟩ | ⟨h1, h2, h3, h4⟩ | ⟨h1, h2, h3, h4⟩
    all_goals
      go_enter Tryz.func75, Tryz.ntmps75
      go_wp2_with (go_at_call 46; refine hmu.mono ?_; clear hmu; rintro e2 w2 ⟨rfl, hb2⟩)
      go_ret
      exact ⟨congrArg (fun b => Ending.returned (Value.bool b)) HX.out.symm, HB.out.trans (hb2.mono HB.out.size)⟩
  · have he : (nm0 == nm) = false := by rw [beq_eq_false_iff_ne]; exact hnp
    have HX := Lib.hid (show (decide (nm0 = nm) && mayU ⟨nm, st, rq, af⟩) = false by rw [decide_eq_false hnp]; rfl)
    clear hnp hmu
    rcases hic with h1 | ⟨h1, h2⟩ | ⟨h1, h2, h3⟩ | ⟨h1, h2, h3, h4⟩ | ⟨h1, h2, h3, h4⟩
    all_goals
      go_enter Tryz.func75, Tryz.ntmps75
      go_wp2_with (fail)
      go_ret
      exact ⟨congrArg (fun b => Ending.returned (Value.bool b)) HX.out.symm, HB.out⟩
theorem refMay21_any {w : World} {B : Nat} (a : AV) (h : ActAt w B a) (hB : B ≤ w.heap.size) (hs : SmallQ a) :
    Calls Tryz.prog 75 #[.agg (avArr a)] w fun e w' => e = .returned (.bool (mayA a.act)) ∧ Below w.heap.size w w' := by
  have hnl : a.name.length ≤ 1000000000 := Nat.le_trans hs.name (by decide)
  cases he : emptyA a.act with
  | false =>
    rw [show mayA a.act = false by unfold mayA; rw [he]; rfl]
    exact refMayN_any a h he
  | true =>
    by_cases k135 : a.kind = 1 ∨ a.kind = 3 ∨ a.kind = 5
    · obtain ⟨eA, ec, uA, uc, uB, ud, e⟩ := shape_plain h he (by omega) (by omega)
      rw [show mayA a.act = nameB a.name by unfold mayA; rw [he, Bool.true_and, if_pos (show a.act.kind = 1 ∨ a.act.kind = 3 ∨ a.act.kind = 5 from k135)]; rfl]
      have h9 := refMayP_any (w := w) (eA := eA) (ec := ec) (uA := uA) (uc := uc) (uB := uB) (ud := ud) a.kind a.name k135 hnl
      rw [← e] at h9
      exact h9
    by_cases k2 : a.kind = 2
    · obtain ⟨eA, ec, uA, uc, uB, ud, e⟩ := shape_plain h he (by omega) (by omega)
      rw [show mayA a.act = rightB [⟨a.name, 1, []⟩] by unfold mayA; rw [he, Bool.true_and, if_neg (show ¬ (a.act.kind = 1 ∨ a.act.kind = 3 ∨ a.act.kind = 5) from k135), if_pos (show a.act.kind = 2 from k2)]; rfl]
      rw [k2] at e
      have h9 := refMayR_any (w := w) (eA := eA) (ec := ec) (uA := uA) (uc := uc) (uB := uB) (ud := ud) a.name hnl
      rw [← e] at h9
      exact h9
    by_cases k4 : a.kind = 4
    · obtain ⟨uA, uc, uB, ud, e⟩ := shape_file h he k4
      rw [show mayA a.act = (decide (a.name = a.file.path) && rightB [a.file.ent]) by unfold mayA; rw [he, Bool.true_and, if_neg (show ¬ (a.act.kind = 1 ∨ a.act.kind = 3 ∨ a.act.kind = 5) from k135), if_neg (show ¬ a.act.kind = 2 from k2), if_pos (show a.act.kind = 4 from k4)]; rfl]
      have h9 := refMayF_any (w := w) (B := B) (uA := uA) (uc := uc) (uB := uB) (ud := ud) a.name a.file (by rw [← e]; exact h) hB (Nat.le_trans hs.path (by decide))
      rw [← e] at h9
      exact h9
    by_cases k6 : a.kind = 6
    · obtain ⟨eA, ec, e⟩ := shape_unit h he k6
      rw [show mayA a.act = (decide (a.name = a.unit.name) && mayU a.unit.srv) by unfold mayA; rw [he, Bool.true_and, if_neg (show ¬ (a.act.kind = 1 ∨ a.act.kind = 3 ∨ a.act.kind = 5) from k135), if_neg (show ¬ a.act.kind = 2 from k2), if_neg (show ¬ a.act.kind = 4 from k4), if_pos (show a.act.kind = 6 from k6)]; rfl]
      have h9 := refMayU_any (w := w) (eA := eA) (ec := ec) a.name a.unit h.req h.aft hB hs.unit
      rw [← e] at h9
      exact h9
    · obtain ⟨eA, ec, uA, uc, uB, ud, e⟩ := shape_plain h he k4 k6
      rw [show mayA a.act = false by unfold mayA; rw [he, Bool.true_and, if_neg (show ¬ (a.act.kind = 1 ∨ a.act.kind = 3 ∨ a.act.kind = 5) from k135), if_neg (show ¬ a.act.kind = 2 from k2), if_neg (show ¬ a.act.kind = 4 from k4), if_neg (show ¬ a.act.kind = 6 from k6)]]
      have h9 := refMayO_any (w := w) (eA := eA) (ec := ec) (uA := uA) (uc := uc) (uB := uB) (ud := ud) a.kind a.name (by omega) (by omega) (by omega) (by omega) (by omega) (by omega)
      rw [← e] at h9
      exact h9
end Go.Proofs.YtibndaianhlcaaaGreatDoor
namespace Go.Proofs.YtibndaianhlcaaaGreatDoor
open Go.RowKit Go.Shelf
set_option linter.unusedVariables false
set_option linter.unusedSimpArgs false

theorem d21_step (m : Nat) (h : ¬ m < 10) : Lib.decDigits m = Lib.decDigits (m / 10) ++ [UInt8.ofNat (48 + m % 10)] := by
  rw [Lib.decDigits, dif_neg h]
theorem d21_one (m : Nat) (h : m < 10) : Lib.decDigits m = [UInt8.ofNat (48 + m % 10)] := by
  rw [Lib.decDigits, dif_pos h, Nat.mod_eq_of_lt h]
theorem d21_itoa (n : Nat) : Lib.itoa (n : Int) = Lib.decDigits n := by
  unfold Lib.itoa
  rw [if_neg (by omega), Int.toNat_natCast]
theorem d21_byte (m : Nat) : ((UInt8.ofNat (48 + m % 10)).toNat : Int) = 48 + (m : Int) % 10 := by
  rw [UInt8.toNat_ofNat_of_lt' (by have := Nat.mod_lt m (show 0 < 10 by decide); show 48 + m % 10 < 2 ^ 8; omega)]
  omega
/-- The digits ahead of the last. -/
def pre21 (m : Nat) : Txt := if m < 10 then [] else Lib.decDigits (m / 10)
theorem pre21_all (m : Nat) : Lib.decDigits m = pre21 m ++ [UInt8.ofNat (48 + m % 10)] := by
  unfold pre21
  by_cases h : m < 10
  · rw [if_pos h, d21_one m h]; rfl
  · rw [if_neg h]; exact d21_step m h
set_option maxRecDepth 100000 in
set_option maxHeartbeats 1000000 in
theorem decimal21_any (n : Nat) (w : World) (hn : n < 1000000) :
    Calls Tryz.prog 76 #[.int .i64 (n : Int)] w fun e w' => e = .returned (.string ⟨(Lib.itoa (n : Int)).toArray⟩) ∧ Below w.heap.size w w' := by
  have HI := Lib.hid (d21_itoa n)
  have hlen : (Lib.decDigits n).length ≤ 1000 := by have := digits_shortD 5 n (by omega); omega
  have hcv0 := convert_bytes (P := Tryz.prog) Tryz.underlying33 Tryz.underlying5 (l := [UInt8.ofNat (48 + n % 10)]) (slc_new w 5 (0, 0) #[.int .u8 ((UInt8.ofNat (48 + n % 10)).toNat : Int)] (sz := 1) (n := 1) (c := 1) rfl (Nat.le_refl _) (by decide)) 9 Tryz.underlying9
  rw [d21_byte] at hcv0
  have HB0 := Lib.hid ((Below.refl w.heap.size w).alloc (Nat.le_refl _) (.cells #[.int .u8 (48 + (n : Int) % 10)] 5))
  have HP0 := Lib.hid (pre21_all n)
  generalize UInt8.ofNat (48 + n % 10) = cb0 at *
  go_enter Tryz.func76, Tryz.ntmps76
  go_wp2_with (fail)
  clear hcv0
  go_loopw [0, 3] (fun v s wr => ∃ (m : Nat) (t : Txt), m < 1000000 ∧ v = .int .i64 (m : Int) ∧ s = .string ⟨t.toArray⟩ ∧ Aside (Lib.decDigits n = pre21 m ++ t) ∧ Aside (Below w.heap.size w wr)) (fun v _ _ => (intOf v).toNat)
  case atStart => exact ⟨n, [cb0], hn, rfl, rfl, HP0.out, HB0.out⟩
  case round =>
    obtain ⟨m, t, hm, rfl, rfl, hd, hb⟩ := hrel
    have htl : t.length ≤ 1000 := by have := congrArg List.length hd.out; rw [List.length_append] at this; omega
    by_cases hlt : m < 10
    · have hgt : ¬ (9 : Int) < (m : Int) := by omega
      have HX := Lib.hid (show Lib.itoa (n : Int) = t by rw [HI.out, hd.out]; unfold pre21; rw [if_pos hlt]; rfl)
      clear hd
      go_wp2_with (fail)
      go_ret
      exact ⟨by rw [HX.out]; rfl, hb.out⟩
    · have hgt : (9 : Int) < (m : Int) := by omega
      obtain ⟨q, hq⟩ : ∃ q, q = m / 10 := ⟨_, rfl⟩
      have hqm : q < m := by omega
      have HE := Lib.hid (show (q : Int) = (m : Int) / 10 by omega)
      have hcv := convert_bytes (P := Tryz.prog) Tryz.underlying33 Tryz.underlying5 (l := [UInt8.ofNat (48 + q % 10)]) (slc_new wr 5 (0, 0) #[.int .u8 ((UInt8.ofNat (48 + q % 10)).toNat : Int)] (sz := 1) (n := 1) (c := 1) rfl (Nat.le_refl _) (by decide)) 9 Tryz.underlying9
      rw [d21_byte, HE.out] at hcv
      have HB := Lib.hid (hb.out.alloc hb.out.size (.cells #[.int .u8 (48 + (m : Int) / 10 % 10)] 5))
      have hq1 : ¬ 9223372036854775807 < 1 + t.length := by omega
      have HX := Lib.hid (show Lib.decDigits n = pre21 q ++ (UInt8.ofNat (48 + q % 10) :: t) by
        rw [hd.out]
        unfold pre21
        rw [if_neg hlt, ← hq]
        have := pre21_all q
        unfold pre21 at this
        rw [this]
        simp)
      generalize UInt8.ofNat (48 + q % 10) = cb at *
      have HQ := Lib.hid hq
      clear hd hb hlt hq
      go_wp2_with (fail)
      exact ⟨⟨q, cb :: t, by omega, by rw [HE.out], congrArg Value.string (by apply Go.WideShapes.bytes_inj; simp), HX.out, HB.out⟩, by simp [intOf]; omega⟩
end Go.Proofs.YtibndaianhlcaaaGreatDoor
namespace Go.Proofs.YtibndaianhlcaaaGreatDoor
open Go.RowKit Go.Sort Go.Shelf
open Go.WideShapes (bytes_inj)
set_option linter.unusedVariables false
set_option linter.unusedSimpArgs false

set_option maxRecDepth 100000 in
set_option maxHeartbeats 1000000 in
theorem lines21W_any {w : World} {B : Nat} (u : SV) (h1 : Slc w B 1 u.A u.n u.c (u.req.map encStr)) (h2 : Slc w B 1 u.A2 u.n2 u.c2 (u.aft.map encStr)) (hB : B ≤ w.heap.size) (hs : SmallW u) :
    Calls Tryz.prog 77 #[.agg (svArr u)] w fun e w' => e = .returned (.string ⟨(linesU u.srv).toArray⟩) ∧ Below w.heap.size w w' := by
  obtain ⟨nm, st, rq, A, n, c, af, A2, n2, c2⟩ := u
  simp only at h1 h2
  have hb1 : Below w.heap.size w (w.alloc (.cells (svArr ⟨nm, st, rq, A, n, c, af, A2, n2, c2⟩) 59)) := (Below.refl _ w).alloc (Nat.le_refl _) _
  have H1 := Lib.hid h1
  have H2 := Lib.hid h2
  have HS := Lib.hid hs
  have HB1 := Lib.hid hb1
  have hst : st.length ≤ 1048576 := hs.start
  have hn : n ≤ 60000000 := hs.n
  have hn2 : n2 ≤ 60000000 := hs.n2
  have hl1 : rq.length = n := by have := h1.len; simpa using this
  have hl2 : af.length = n2 := by have := h2.len; simpa using this
  have HL1 := Lib.hid hl1
  have HL2 := Lib.hid hl2
  have q1 : ¬ 9223372036854775807 < 4 + st.length := by omega
  have q2 : ¬ 9223372036854775807 < 4 + st.length + 1 := by omega
  have HW1 := Lib.hid hs.lr
  have HW2 := Lib.hid hs.la
  show Calls _ _ _ _ fun e w' => e = .returned (.string ⟨(linesU ⟨nm, st, rq, af⟩).toArray⟩) ∧ Below w.heap.size w w'
  rw [linesU_eq]
  unfold svArr
  clear h1 h2 hs hb1 hl1 hl2
  go_enter Tryz.func77, Tryz.ntmps77
  go_wp2_with (fail)
  go_loopw [3, 4] (fun s i wr => ∃ (k : Nat) (bb : ByteArray), k ≤ n ∧ i = .int .i64 (k : Int) ∧ s = .string bb ∧ Aside (bb.data.toList = ([114, 117, 110, 32] ++ st ++ [10]) ++ linesW [114, 101, 113, 117, 105, 114, 101, 115, 32] (rq.take k)) ∧ Aside (Blk wr w.heap.size 59 #[.string ⟨nm.toArray⟩, .string ⟨st.toArray⟩, .slice A n c, .slice A2 n2 c2]) ∧ Aside (Below w.heap.size w wr)) (fun _ i _ => n - (intOf i).toNat)
  case atStart => exact ⟨0, _, Nat.zero_le _, rfl, rfl, (show (_ : Txt) = _ by simp [linesW]), Blk.new _ _ _, HB1.out⟩
  case round =>
    obtain ⟨k, bb, hk, rfl, rfl, hbb, hG, hb⟩ := hrel
    have hbs : bb.size ≤ 1200000000000 := by
      have h9 := congrArg List.length hbb.out
      have h8 := HW1.out k
      rw [bsz_list, List.length_append] at h9
      simp only [List.length_append, List.length_cons, List.length_nil] at h9
      omega
    have g2 := hG.out.cell 2
    have g3 := hG.out.cell 3
    simp only [List.getElem?_toArray, List.getElem?_cons_zero, List.getElem?_cons_succ] at g2 g3
    by_cases hlt : k < n
    · obtain ⟨b, off, rfl, hbB, hl, c0⟩ := txtAt21 (H1.out.below (hb.out.mono hB)) hlt
      have ht := HS.out.texts _ (List.mem_append.2 (.inl (List.getElem_mem hl)))
      have HT := Lib.hid (linesW_succ [114, 101, 113, 117, 105, 114, 101, 115, 32] rq hl)
      generalize rq[k] = t at *
      have q1 : ¬ 9223372036854775807 < bb.size + 9 := by omega
      have q2 : ¬ 9223372036854775807 < bb.size + 9 + t.length := by omega
      have q3 : ¬ 9223372036854775807 < bb.size + 9 + t.length + 1 := by omega
      go_wp2_with (fail)
      exact ⟨⟨k + 1, _, by omega, by go_num, rfl, (show (_ : Txt) = _ by rw [HT.out, ← List.append_assoc, ← hbb.out]; simp), hG.out, hb.out⟩, by simp [intOf]; omega⟩
    · obtain rfl : k = n := by omega
      have HF := Lib.hid (show bb.data.toList = [114, 117, 110, 32] ++ st ++ [10] ++ linesW [114, 101, 113, 117, 105, 114, 101, 115, 32] rq by rw [hbb.out, List.take_of_length_le (by have := HL1.out; omega)])
      have HBS := Lib.hid hbs
      have HGG := hG
      have HBB := hb
      clear hbb
      go_wp2_with (fail)
      go_loopw [3, 5] (fun s i wr' => ∃ (j : Nat) (b2 : ByteArray), j ≤ n2 ∧ i = .int .i64 (j : Int) ∧ s = .string b2 ∧ Aside (b2.data.toList = bb.data.toList ++ linesW [97, 102, 116, 101, 114, 32] (af.take j)) ∧ Aside (Blk wr' w.heap.size 59 #[.string ⟨nm.toArray⟩, .string ⟨st.toArray⟩, .slice A k c, .slice A2 n2 c2]) ∧ Aside (Below w.heap.size w wr')) (fun _ i _ => n2 - (intOf i).toNat)
      case atStart => exact ⟨0, _, Nat.zero_le _, rfl, rfl, (show (_ : Txt) = _ by simp [linesW]), HGG.out, HBB.out⟩
      case round =>
        obtain ⟨j, b2, hj, rfl, rfl, hb2, hG', hb'⟩ := hrel
        have hs2 : b2.size ≤ 2400000000000 := by
          have h9 := congrArg List.length hb2.out
          have h8 := HW2.out j
          have h7 := HBS.out
          rw [bsz_list, List.length_append, bsz_list] at h9
          omega
        have g3 := hG'.out.cell 3
        simp only [List.getElem?_toArray, List.getElem?_cons_zero, List.getElem?_cons_succ] at g3
        by_cases hlt : j < n2
        · obtain ⟨b, off, rfl, hbB, hl, c0⟩ := txtAt21 (H2.out.below (hb'.out.mono hB)) hlt
          have ht := HS.out.texts _ (List.mem_append.2 (.inr (List.getElem_mem hl)))
          have HT := Lib.hid (linesW_succ [97, 102, 116, 101, 114, 32] af hl)
          generalize af[j] = t at *
          have q1 : ¬ 9223372036854775807 < b2.size + 6 := by omega
          have q2 : ¬ 9223372036854775807 < b2.size + 6 + t.length := by omega
          have q3 : ¬ 9223372036854775807 < b2.size + 6 + t.length + 1 := by omega
          go_wp2_with (fail)
          exact ⟨⟨j + 1, _, by omega, by go_num, rfl, (show (_ : Txt) = _ by rw [HT.out, ← List.append_assoc, ← hb2.out]; simp), hG'.out, hb'.out⟩, by simp [intOf]; omega⟩
        · obtain rfl : j = n2 := by omega
          have HE := Lib.hid (show b2 = ⟨([114, 117, 110, 32] ++ st ++ [10] ++ linesW [114, 101, 113, 117, 105, 114, 101, 115, 32] rq ++ linesW [97, 102, 116, 101, 114, 32] af).toArray⟩ from bytes_inj (by rw [hb2.out, HF.out, List.take_of_length_le (by have := HL2.out; omega)]))
          go_wp2_with (fail)
          go_ret
          exact ⟨congrArg (fun b => Ending.returned (Value.string b)) HE.out, hb'.out⟩
theorem lines21_any {w : World} {B : Nat} (u : SV) (h1 : Slc w B 1 u.A u.n u.c (u.req.map encStr)) (h2 : Slc w B 1 u.A2 u.n2 u.c2 (u.aft.map encStr)) (hB : B ≤ w.heap.size) (hs : SmallU u) :
    Calls Tryz.prog 77 #[.agg (svArr u)] w fun e w' => e = .returned (.string ⟨(linesU u.srv).toArray⟩) ∧ Below w.heap.size w w' :=
  lines21W_any u h1 h2 hB (hs.lines (by have := h1.len; simpa using this) (by have := h2.len; simpa using this))
set_option maxRecDepth 100000 in
set_option maxHeartbeats 2000000 in
theorem copied21_any {w : World} {B : Nat} {A : Option Addr} {n c : Nat} {es : List EV} (h : EntsAt w B A n c es) (hB : B ≤ w.heap.size) (hn : n ≤ 10000000) (hd : ∀ e ∈ es, e.data.length ≤ 1000000000) :
    Calls Tryz.prog 12 #[.slice A n c] w fun e w' => ∃ A' c' es', e = .returned (.slice A' n c') ∧ OwnEnts w' w.heap.size (.slice A' n c') n es' ∧ es'.map EV.ent = es.map EV.ent ∧ Below w.heap.size w w' := by
  have H := Lib.hid h
  have HD := Lib.hid hd
  have HL := Lib.hid h.len
  have HO1 := Lib.hid (OwnEnts.nil w w.heap.size)
  clear h hd
  go_enter Tryz.func12, Tryz.ntmps12
  go_wp2_with (fail)
  go_loopw [3, 4] (fun o i wr => ∃ (k : Nat) (A' : Option Addr) (c' : Nat) (es' : List EV), k ≤ n ∧ i = .int .i64 (k : Int) ∧ o = .slice A' k c' ∧ Aside (OwnEnts wr w.heap.size (.slice A' k c') k es') ∧ Aside (es'.map EV.ent = (es.take k).map EV.ent) ∧ Aside (Below w.heap.size w wr)) (fun _ i _ => n - (intOf i).toNat)
  case atStart => exact ⟨0, _, _, [], Nat.zero_le _, rfl, rfl, HO1.out, rfl, Below.refl _ _⟩
  case round =>
    obtain ⟨k, A', c', es', hk, rfl, rfl, ho, hmap, hb⟩ := hrel
    by_cases hlt : k < n
    · obtain ⟨b, off, rfl, hbB, hl, c0, c1, c2, hS⟩ := (H.out.below (hb.out.mono hB)).at_ hlt
      have hdl := HD.out _ (List.getElem_mem hl)
      have HM := Lib.hid (show (es.take (k + 1)).map EV.ent = (es.take k).map EV.ent ++ [es[k].ent] by rw [List.take_succ_eq_append_getElem hl, List.map_append]; rfl)
      generalize es[k] = e at *
      have hen : e.n ≤ 1000000000 := by have := hS.len; rw [List.length_map] at this; omega
      obtain ⟨W2, w3, g3, c3, A6, c6, w6, S, hb6⟩ := copy_step ho.out hb.out e hS (Nat.le_trans hB hb.out.size) (by omega) hen
      have HR3 := Lib.hid S.r3
      have HR6 := Lib.hid S.r6
      have HO6 := Lib.hid S.own
      have HB6 := Lib.hid hb6
      have x0 := S.blk.cell 0
      have x1 := S.blk.cell 1
      have x2 := S.blk.cell 2
      have f2 := S.blk.frozen 2
      simp only [List.getElem?_toArray, List.getElem?_cons_zero, List.getElem?_cons_succ] at x0 x1 x2
      have hB2 := S.blk.set_ 2 (.slice (some ⟨g3, 0, none⟩) e.n c3)
      have y0 := hB2.cell 0
      have y1 := hB2.cell 1
      have y2 := hB2.cell 2
      simp only [List.setIfInBounds_toArray, List.set_cons_zero, List.set_cons_succ, List.getElem?_toArray, List.getElem?_cons_zero, List.getElem?_cons_succ] at y0 y1 y2
      clear S hS hb6 hB2 hdl
      go_wp2_with (first
        | (at_builtin; refine wpList_append_run rfl _ _ _ rfl rfl rfl HR3.out ?_; clear HR3)
        | (at_builtin; refine wpList_append_run rfl _ _ _ rfl rfl rfl HR6.out ?_; clear HR6))
      exact ⟨⟨k + 1, A6, c6, _, by omega, by go_num, rfl, HO6.out, by rw [HM.out, List.map_append, hmap.out]; rfl, HB6.out⟩, by simp [intOf]; omega⟩
    · obtain rfl : k = n := by omega
      have HT := Lib.hid (show es'.map EV.ent = es.map EV.ent by rw [hmap.out, List.take_of_length_le (by have := HL.out; omega)])
      go_wp2_with (fail)
      go_ret
      exact ⟨A', c', es', rfl, ho.out, HT.out, hb.out⟩
end Go.Proofs.YtibndaianhlcaaaGreatDoor
