/- The walk of TreeFinds. -/
import Derived.Test.YtdhlklidenfbeaaDoorFind
import Derived.Test.YtdhlklidenfbeaaDoorRef08F
import Derived.Test.YtdhlklidenfbeaaDoorTreeF
import Derived.Test.YtdhlklidenfbeaaDoorByteSet
namespace Go.Proofs.YtdhlklidenfbeaaDoor
open Go.RowKit Go.Shelf
set_option linter.unusedVariables false
set_option linter.unusedSimpArgs false

def zeroE : EV := ⟨[], 0, [], none, 0, 0⟩
/-- What the law has found itself, ahead of place k. -/
def WantAt (w wr : World) (es : List EV) (p : Txt) (g k : Nat) (b : Bool) : Prop :=
  (b = false ∧ (∀ j (hj : j < es.length), j < k → es[j].path ≠ p) ∧ Blk wr g 44 #[.string ⟨#[]⟩, .int .i64 0, .slice none 0 0]) ∨
  (b = true ∧ ∃ e ∈ es, findE (es.map EV.ent) p = some e.ent ∧ Blk wr g 44 #[.string ⟨e.path.toArray⟩, .int .i64 e.kind, .slice e.A e.n e.c])
/-- .. and when it is through. -/
structure WantEnd (wr : World) (l : List Ent) (p : Txt) (g : Nat) (b : Bool) (e : EV) : Prop where
  is : b = (findE l p).isSome
  ent : e.ent = foundE l p
  blk : Blk wr g 44 #[.string ⟨e.path.toArray⟩, .int .i64 e.kind, .slice e.A e.n e.c]
theorem WantAt.done {w wr : World} {es : List EV} {p : Txt} {g k : Nat} {b : Bool} (h : WantAt w wr es p g k b) (hk : b = true ∨ es.length ≤ k) : ∃ e, WantEnd wr (es.map EV.ent) p g b e ∧ (e = zeroE ∨ e ∈ es) := by
  rcases h with ⟨rfl, hno, hB⟩ | ⟨rfl, e, he, hf, hB⟩
  · rcases hk with hk | hk
    · cases hk
    · have hn : findE (es.map EV.ent) p = none := findE_none fun i hi => by
        rw [List.length_map] at hi
        rw [List.getElem_map]
        exact hno i hi (by omega)
      exact ⟨zeroE, ⟨by rw [hn]; rfl, by unfold foundE; rw [hn]; rfl, hB⟩, .inl rfl⟩
  · exact ⟨e, ⟨by rw [hf]; rfl, by unfold foundE; rw [hf]; rfl, hB⟩, .inr he⟩
theorem one_ent (w : World) (e : EV) (hS : Slc w w.heap.size 1 e.A e.n e.c (e.data.map bv)) : EntsAt (w.alloc (.cells #[.string ⟨e.path.toArray⟩, .int .i64 e.kind, .slice e.A e.n e.c] 44)) (w.heap.size + 1) (some ⟨w.heap.size, 0, none⟩) 1 1 [e] :=
  ents_new w [e] 1 rfl (by decide) (fun x hx => by rw [List.mem_singleton.1 hx]; exact hS)

set_option maxRecDepth 100000 in
set_option maxHeartbeats 4000000 in
theorem treeFinds_any {w : World} {A : Option Addr} {n c : Nat} {es : List EV} (h : EntsAt w w.heap.size A n c es) (hn : n ≤ 10000000) (hd : ∀ e ∈ es, e.data.length ≤ 1000000000) (p : Txt) (hroom : (refsAll (es.map (·.data))).length ≤ 10000000) :
    Calls Tryd.prog 10 #[.slice A n c, .string ⟨p.toArray⟩] w fun e w' => e = .returned (.bool true) ∧ Below w.heap.size w w' := by
  have hs := shown08_any w
  have H := Lib.hid h
  have HD := Lib.hid hd
  have HRM := Lib.hid hroom
  have hnc := h.slc.le
  have hcm := h.slc.cmax
  have hn62 : n ≤ 9223372036854775807 := by omega
  have tp : (ByteArray.mk p.toArray).toList = p := Go.ByteArray.toList_eq _
  have HLN := Lib.hid h.len
  clear h hd hroom
  go_enter Tryd.func10, Tryd.ntmps10
  go_wp2_with (first
    | (go_at_call 42; refine hs.mono ?_; clear hs; rintro e1 w1 ⟨rfl, hb1⟩; have HB1 := Lib.hid hb1; have hcp := copied08_any (H.out.below hb1) hb1.size hn HD.out; clear hb1)
    | (go_at_call 45; refine hcp.mono ?_; clear hcp; rintro e2 w2 ⟨A2, c2, es2, rfl, ho2, hm2, hb2⟩; have HB2 := Lib.hid (HB1.out.trans (hb2.mono HB1.out.size)); have HM2 := Lib.hid hm2; have HE2 := Lib.hid ho2.ents; have hfd := find_any ho2.ents (Nat.le_refl _) p (fun e he => by have h1 : e.ent ∈ es.map EV.ent := (by rw [← hm2]; exact List.mem_map.2 ⟨e, he, rfl⟩); obtain ⟨x, hx, hxe⟩ := List.mem_map.1 h1; have h2 := HD.out x hx; rw [← show x.data = e.data from congrArg Ent.data hxe]; exact h2); rw [hm2] at hfd; clear ho2 hm2 hb2)
    | (go_at_call 46; refine hfd.mono ?_; clear hfd; rintro e3 w3 ⟨x, rfl, hx3, ho3, hb3⟩; have HX3 := Lib.hid hx3; have HO3 := Lib.hid ho3; have HB3 := Lib.hid hb3; clear hx3 ho3 hb3; obtain ⟨xp, xk, xd, xA, xn, xc⟩ := x; simp only [evArr]))
  obtain ⟨ok, hok⟩ : ∃ ok, ok = (findE (es.map EV.ent) p).isSome := ⟨_, rfl⟩
  rw [← hok]
  have HOK := Lib.hid hok
  obtain ⟨gX, hgX⟩ : ∃ gX, gX = w3.heap.size := ⟨_, rfl⟩
  obtain ⟨w5, hw5⟩ : ∃ w5, w5 = (w3.alloc (.cells #[.string ⟨xp.toArray⟩, .int .i64 xk, .slice xA xn xc] 44)).alloc (.cells #[.string ⟨#[]⟩, .int .i64 0, .slice none 0 0] 44) := ⟨_, rfl⟩
  have hb35 : Below w3.heap.size w3 w5 := by rw [hw5]; exact ((Below.refl _ w3).alloc (Nat.le_refl _) _).alloc (by simp) _
  have hX5 : Blk w5 gX 44 #[.string ⟨xp.toArray⟩, .int .i64 xk, .slice xA xn xc] := by rw [hw5, hgX]; exact (Blk.new _ _ _).alloc _
  have hW5 : Blk w5 (gX + 1) 44 #[.string ⟨#[]⟩, .int .i64 0, .slice none 0 0] := by
    rw [hw5, hgX]
    have := Blk.new (w3.alloc (.cells #[.string ⟨xp.toArray⟩, .int .i64 xk, .slice xA xn xc] 44)) 44 #[.string ⟨#[]⟩, .int .i64 0, .slice none 0 0]
    rwa [World.size_alloc] at this
  rw [← hw5, ← hgX]
  have HGX := Lib.hid hgX
  have HX5 := Lib.hid hX5
  have HW5 := Lib.hid hW5
  have HB35 := Lib.hid hb35
  clear hok hgX hw5 hb35 hX5 hW5
  go_loopw [10, 11] (fun s i wr => ∃ (k : Nat) (b : Bool), k ≤ n ∧ i = .int .i64 (k : Int) ∧ s = .bool b ∧ Aside (WantAt w wr es p (gX + 1) k b) ∧ Aside (Blk wr gX 44 #[.string ⟨xp.toArray⟩, .int .i64 xk, .slice xA xn xc]) ∧ Aside (Below w3.heap.size w3 wr)) (fun s i _ => n - (intOf i).toNat)
  case atStart => exact ⟨0, false, Nat.zero_le _, rfl, rfl, .inl ⟨rfl, fun j _ h => absurd h (Nat.not_lt_zero _), HW5.out⟩, HX5.out, HB35.out⟩
  case round =>
    obtain ⟨k, b, hk, rfl, rfl, hwa, hBX, hb⟩ := hrel
    have hW3 : Below w.heap.size w w3 := HB2.out.trans (HB3.out.mono HB2.out.size)
    have hWR : Below w.heap.size w wr := hW3.trans (hb.out.mono hW3.size)
    by_cases hgo : k < n ∧ b = false
    · obtain ⟨hlt, rfl⟩ := hgo
      obtain ⟨gl, off, rfl, hbB, hl, c0, c1, c2, hS⟩ := (H.out.below hWR).at_ hlt
      rcases hwa.out with ⟨_, hno, hBW⟩ | ⟨h1, _⟩
      · have hne : gX ≠ gX + 1 := by omega
        have HHI := Lib.hid (fun (hp : es[k].path = p) => show findE (es.map EV.ent) p = some es[k].ent by
          have h1 := findE_at (l := es.map EV.ent) (p := p) (k := k) (by rw [List.length_map]; exact hl) (by rw [List.getElem_map]; exact hp) (fun i hi hik => by rw [List.length_map] at hi; rw [List.getElem_map]; exact hno i hi hik)
          rwa [List.getElem_map] at h1)
        have HNO := Lib.hid (fun (hp : ¬ es[k].path = p) => show ∀ j (hj : j < es.length), j < k + 1 → es[j].path ≠ p from fun j hj hjk => by
          rcases Nat.lt_or_ge j k with h1 | h1
          · exact hno j hj h1
          · obtain rfl : j = k := by omega
            exact hp)
        have hmem : es[k] ∈ es := List.getElem_mem hl
        have HBW := Lib.hid hBW
        have HBXX := Lib.hid hBX.out
        have HBB := Lib.hid hb.out
        clear hS hno hwa hBX hb hWR hW3 hBW
        generalize es[k] = e at *
        have te : (ByteArray.mk e.path.toArray).toList = e.path := Go.ByteArray.toList_eq _
        cases hpq : (e.path == p) with
        | false =>
          have HX := Lib.hid (HNO.out (by simpa using hpq))
          go_wp2_with (fail)
          exact ⟨⟨k + 1, false, by omega, by go_num, rfl, .inl ⟨rfl, HX.out, HBW.out⟩, HBXX.out, HBB.out⟩, by simp [intOf]; omega⟩
        | true =>
          have HX := Lib.hid (HHI.out (by simpa using hpq))
          have z0 := HBW.out.cell 0
          have z1 := HBW.out.cell 1
          have z2 := HBW.out.cell 2
          have zf0 := HBW.out.frozen 0
          have zf1 := HBW.out.frozen 1
          have zf2 := HBW.out.frozen 2
          simp only [List.getElem?_toArray, List.getElem?_cons_zero, List.getElem?_cons_succ] at z0 z1 z2
          have q1 := ((HBW.out.set_ 0 (.string ⟨e.path.toArray⟩)).set_ 1 (.int .i64 e.kind)).set_ 2 (.slice e.A e.n e.c)
          simp only [List.setIfInBounds_toArray, List.set_cons_zero, List.set_cons_succ] at q1
          have Q1 := Lib.hid q1
          have Q2 := Lib.hid (((HBXX.out.far (p := ⟨gX + 1, 0, none⟩) hne (.string ⟨e.path.toArray⟩)).far (p := ⟨gX + 1, 1, none⟩) hne (.int .i64 e.kind)).far (p := ⟨gX + 1, 2, none⟩) hne (.slice e.A e.n e.c))
          have hgx : w3.heap.size ≤ gX + 1 := by have := HGX.out; omega
          have Q3 := Lib.hid (((HBB.out.setCell (p := ⟨gX + 1, 0, none⟩) hgx (.string ⟨e.path.toArray⟩)).setCell (p := ⟨gX + 1, 1, none⟩) hgx (.int .i64 e.kind)).setCell (p := ⟨gX + 1, 2, none⟩) hgx (.slice e.A e.n e.c))
          clear q1 hgx hne
          go_wp2_with (fail)
          exact ⟨⟨k + 1, true, by omega, by go_num, rfl, .inr ⟨rfl, e, hmem, HX.out, Q1.out⟩, Q2.out, Q3.out⟩, by simp [intOf]; omega⟩
      · cases h1
    · have hex : b = true ∨ es.length ≤ k := by
        cases b with
        | true => exact .inl rfl
        | false => exact .inr (by have := HLN.out; have : ¬ k < n := fun h => hgo ⟨h, rfl⟩; omega)
      obtain ⟨e, hwe, hmem⟩ := hwa.out.done hex
      obtain rfl : ok = b := HOK.out.trans hwe.is.symm
      have hcs : (k < n ∧ ok = true) ∨ ¬ k < n := by
        by_cases h : k < n
        · refine .inl ⟨h, ?_⟩
          cases ok with
          | true => rfl
          | false => exact absurd ⟨h, rfl⟩ hgo
        · exact .inr h
      have hSx : Slc wr wr.heap.size 1 xA xn xc (xd.map bv) := ((own_slc_of HO3.out).below hb.out).more hb.out.size
      have hSe : Slc wr wr.heap.size 1 e.A e.n e.c (e.data.map bv) := by
        rcases hmem with rfl | hm
        · exact ⟨rfl, Nat.le_refl _, Nat.zero_le _, fun h => absurd h (by decide)⟩
        · exact ((H.out.data e hm).below hWR).more hWR.size
      have hbA : Below wr.heap.size wr (wr.alloc (.cells #[.string ⟨xp.toArray⟩, .int .i64 xk, .slice xA xn xc] 44)) := (Below.refl _ wr).alloc (Nat.le_refl _) _
      have hE1 := one_ent wr ⟨xp, xk, xd, xA, xn, xc⟩ hSx
      have hE2 := one_ent (wr.alloc (.cells #[.string ⟨xp.toArray⟩, .int .i64 xk, .slice xA xn xc] 44)) e ((hSe.below hbA).more hbA.size)
      have hbB : Below (wr.heap.size + 1) (wr.alloc (.cells #[.string ⟨xp.toArray⟩, .int .i64 xk, .slice xA xn xc] 44)) ((wr.alloc (.cells #[.string ⟨xp.toArray⟩, .int .i64 xk, .slice xA xn xc] 44)).alloc (.cells #[.string ⟨e.path.toArray⟩, .int .i64 e.kind, .slice e.A e.n e.c] 44)) := (Below.refl _ _).alloc (by simp) _
      have hsm := refSame_any (hE1.below hbB) hE2
      have hee : entsEq ([(⟨xp, xk, xd, xA, xn, xc⟩ : EV)].map EV.ent) ([e].map EV.ent) = true := (entsEq_iff _ _).2 (by
        show [EV.ent ⟨xp, xk, xd, xA, xn, xc⟩] = [e.ent]
        rw [HX3.out, hwe.ent])
      rw [hee, World.size_alloc] at hsm
      have x0 := hBX.out.cell 0
      have x1 := hBX.out.cell 1
      have x2 := hBX.out.cell 2
      simp only [List.getElem?_toArray, List.getElem?_cons_zero, List.getElem?_cons_succ] at x0 x1 x2
      have hwA := hwe.blk.alloc (.cells #[.string ⟨xp.toArray⟩, .int .i64 xk, .slice xA xn xc] 44)
      have y0 := hwA.cell 0
      have y1 := hwA.cell 1
      have y2 := hwA.cell 2
      simp only [List.getElem?_toArray, List.getElem?_cons_zero, List.getElem?_cons_succ] at y0 y1 y2
      have HB7 := Lib.hid (show Below w3.heap.size w3 ((wr.alloc (.cells #[.string ⟨xp.toArray⟩, .int .i64 xk, .slice xA xn xc] 44)).alloc (.cells #[.string ⟨e.path.toArray⟩, .int .i64 e.kind, .slice e.A e.n e.c] 44)) from (hb.out.alloc hb.out.size _).alloc (by have := hb.out.size; simp; omega) _)
      have HBX7 := Lib.hid (show Blk ((wr.alloc (.cells #[.string ⟨xp.toArray⟩, .int .i64 xk, .slice xA xn xc] 44)).alloc (.cells #[.string ⟨e.path.toArray⟩, .int .i64 e.kind, .slice e.A e.n e.c] 44)) gX 44 #[.string ⟨xp.toArray⟩, .int .i64 xk, .slice xA xn xc] from (hBX.out.alloc _).alloc _)
      have HW3 := Lib.hid hW3
      have hXl := hBX.out.lt
      have hWl := hwe.blk.lt
      clear hex hwe hmem hSx hSe hbA hE1 hE2 hbB hee hwA hwa hBX hb hW3 hWR hgo HOK
      rcases hcs with ⟨hcs1, rfl⟩ | hcs1
      all_goals
        go_wp2_with (go_at_call 47; refine hsm.mono ?_; clear hsm; rintro e6 w6 ⟨rfl, q6, rfl⟩)
        have HB8 := Lib.hid (HB7.out.trans (dr_below _ q6))
        have HX8 := Lib.hid (HBX7.out.drewN q6)
        generalize World.drewN _ q6 = w8 at *
        have hxn : xn ≤ 9223372036854775807 := by have h1 := (own_slc_of HO3.out).le; have h2 := (own_slc_of HO3.out).cmax; unfold maxLen at h2; omega
        have HB28 := Lib.hid (HB3.out.trans (HB8.out.mono HB3.out.size))
        go_loopw [13] (fun i wr => ∃ k : Nat, k ≤ xn ∧ i = .int .i64 (k : Int) ∧ Aside (∃ ys, wr.ownsRow w2.heap.size 5 1 (.slice xA xn xc) xn ys) ∧ Aside (Blk wr gX 44 #[.string ⟨xp.toArray⟩, .int .i64 xk, .slice xA xn xc]) ∧ Aside (Below w2.heap.size w2 wr)) (fun i _ => xn - (intOf i).toNat)
        case atStart => exact ⟨0, Nat.zero_le _, rfl, ⟨_, own_below HO3.out HB8.out⟩, HX8.out, HB28.out⟩
        case round =>
          obtain ⟨k, hk, rfl, hown, hBX, hb⟩ := hrel
          have x2 := hBX.out.cell 2
          simp only [List.getElem?_toArray, List.getElem?_cons_zero, List.getElem?_cons_succ] at x2
          by_cases hlt : k < xn
          · obtain ⟨ys, hys⟩ := hown.out
            obtain ⟨g, hg⟩ : ∃ g, xA = some ⟨g, 0, none⟩ := by
              rcases hys.2 with ⟨_, h0⟩ | ⟨g, cap, cur, e, _⟩
              · omega
              · injection e with e1
                exact ⟨g, e1⟩
            have hgl : g < w3.heap.size := (HO3.out.lt g (by rw [hg]; rfl)).2
            subst hg
            have hgX : gX ≠ g := by have := HGX.out; omega
            obtain ⟨hs1, ⟨v, hv⟩, hf, hgb⟩ := own_byte_set hys hlt (.int .u8 3)
            have HS1 := Lib.hid hs1
            have HBS := Lib.hid (hb.out.setCell (p := ⟨g, k, none⟩) hgb (.int .u8 3))
            have HXS := Lib.hid (hBX.out.far (p := ⟨g, k, none⟩) hgX (.int .u8 3))
            clear hs1 hys hgl
            go_wp2_with (fail)
            exact ⟨⟨k + 1, by omega, by go_num, ⟨_, HS1.out⟩, HXS.out, HBS.out⟩, by simp [intOf]; omega⟩
          · have HBR := Lib.hid hb.out
            have HWR := Lib.hid (HB2.out.trans (hb.out.mono HB2.out.size))
            clear hown hBX hb
            have hsm2 := refSame_any (HE2.out.below HBR.out) (H.out.below HWR.out)
            rw [HM2.out, (entsEq_iff _ _).2 rfl] at hsm2
            have hmd : es2.map (·.data) = es.map (·.data) := by
              have h1 := congrArg (List.map Ent.data) HM2.out
              rw [List.map_map, List.map_map] at h1
              exact h1
            have HMD := Lib.hid hmd
            clear hmd
            go_wp2_with (first
              | (go_at_call 47; refine hsm2.mono ?_; clear hsm2; rintro e9 w9 ⟨rfl, q9, rfl⟩; have HB9 := Lib.hid (HBR.out.trans (dr_below wr q9)); have HW9 := Lib.hid (HWR.out.trans (dr_below wr q9)); have hrf := refs_any (HE2.out.below HB9.out) HB9.out.size (by rw [HMD.out]; have := HRM.out; omega); rw [HMD.out] at hrf)
              | (go_at_call 43; refine hrf.mono ?_; clear hrf; rintro e10 w10 ⟨A10, n10, c10, rfl, ho10, hb10⟩; have HW10 := Lib.hid (HW9.out.trans (hb10.mono HW9.out.size)); have HO10 := Lib.hid ho10; have hrr := refRefs_any (H.out.below HW10.out) HW10.out.size HD.out HRM.out; clear ho10 hb10)
              | (go_at_call 49; refine hrr.mono ?_; clear hrr; rintro e11 w11 ⟨A11, n11, c11, rfl, ho11, hb11⟩; have HW11 := Lib.hid (HW10.out.trans (hb11.mono HW10.out.size)); have hst := refSameTexts_any (own_slc_of (own_below HO10.out hb11)) (own_slc_of ho11); clear ho11 hb11)
              | (go_at_call 48; refine hst.mono ?_; clear hst; rintro e12 w12 ⟨rfl, q12, rfl⟩))
            go_ret
            exact ⟨by simp, HW11.out.trans (dr_below _ q12)⟩
end Go.Proofs.YtdhlklidenfbeaaDoor
