/- The reference of layer 20: are two machines alike? The reference of layer 20: Same. machine.Observe: the walk. Layer 20: what the law's runs keep. -/
import Derived.Test.YtibndaianhlcaaaGreatDoorPart20
import Derived.Test.YtibndaianhlcaaaGreatDoorPart13
import Derived.Test.YtibndaianhlcaaaGreatDoorPart15
namespace Go.Proofs.YtibndaianhlcaaaGreatDoor
open Go.RowKit Go.Sort Go.Shelf
set_option linter.unusedVariables false
set_option linter.unusedSimpArgs false

theorem txtAt {w : World} {B : Nat} {A : Option Addr} {n c : Nat} {L : List Txt} (h : Slc w B 1 A n c (L.map encStr)) {k : Nat} (hk : k < n) :
    ∃ b off, A = some ⟨b, off, none⟩ ∧ b < B ∧ ∃ hl : k < L.length, w.cell? ⟨b, off + k, none⟩ = some (.string ⟨L[k].toArray⟩) := by
  obtain ⟨b, off, e, hb, hc⟩ := h.at_ (by omega)
  have hl : k < L.length := by have := h.len; simp at this; omega
  exact ⟨b, off, e, hb, hl, hc k _ (by simp [encStr, List.getElem?_map, List.getElem?_eq_getElem hl])⟩
theorem take_ne {α : Type} {a b : List α} {k : Nat} (ha : k < a.length) (hb : k < b.length) (h : a[k] ≠ b[k]) : a ≠ b := by
  rintro rfl
  exact h rfl
theorem take_more {α : Type} {a b : List α} {k : Nat} (h : a.take k = b.take k) (ha : k < a.length) (hb : k < b.length) (e : a[k] = b[k]) : a.take (k + 1) = b.take (k + 1) := by
  rw [List.take_succ_eq_append_getElem ha, List.take_succ_eq_append_getElem hb, h, e]
theorem take_whole {α : Type} {a b : List α} {k : Nat} (h : a.take k = b.take k) (ha : a.length = k) (hb : b.length = k) : a = b := by
  rw [List.take_of_length_le (by omega), List.take_of_length_le (by omega)] at h
  exact h
set_option maxRecDepth 100000 in
set_option maxHeartbeats 1000000 in
theorem sameTexts_any {w : World} {B B' : Nat} {A A' : Option Addr} {n n' c c' : Nat} {L M : List Txt} (h : Slc w B 1 A n c (L.map encStr)) (h' : Slc w B' 1 A' n' c' (M.map encStr)) :
    Calls Tryz.prog 56 #[.slice A n c, .slice A' n' c'] w fun e w' => e = .returned (.bool (decide (L = M))) ∧ ∃ q, w' = w.drewN q := by
  have hL : L.length = n := by have := h.len; simpa using this
  have hM : M.length = n' := by have := h'.len; simpa using this
  have hn62 : n ≤ 9223372036854775807 := by have h1 := h.le; have h2 := h.cmax; unfold maxLen at h2; omega
  have H := Lib.hid h
  have H' := Lib.hid h'
  have HL := Lib.hid hL
  have HM := Lib.hid hM
  by_cases hne : n = n'
  case neg =>
    have HX := Lib.hid (show decide (L = M) = false from decide_eq_false (fun e => hne (by rw [← hL, ← hM, e])))
    have hk : ((n : Int) != (n' : Int)) = true := by simp; omega
    clear h h' hL hM
    go_enter Tryz.func56, Tryz.ntmps56
    go_wp2
    go_ret
    exact ⟨by rw [HX.out]; rfl, 0, rfl⟩
  subst hne
  clear h h' hL hM
  go_enter Tryz.func56, Tryz.ntmps56
  go_wp2
  go_loopw [5] (fun i wr => ∃ k : Nat, k ≤ n ∧ i = .int .i64 (k : Int) ∧ Aside (L.take k = M.take k) ∧ Aside (∃ q, wr = w.drewN q)) (fun i _ => n - (intOf i).toNat)
  case atStart => exact ⟨0, Nat.zero_le _, rfl, rfl, 0, rfl⟩
  case round =>
    obtain ⟨k, hk, rfl, hto, hdr⟩ := hrel
    have hbw : ∀ B, Below B w wr := fun B => by obtain ⟨q0, hq0⟩ := hdr.out; rw [hq0]; exact ⟨rfl, rfl, rfl, Nat.le_refl _, fun _ _ => rfl⟩
    by_cases hlt : k < n
    · obtain ⟨g, off, rfl, _, hkl, c0⟩ := txtAt (H.out.below (hbw _)) hlt
      obtain ⟨g', off', rfl, _, hkl', d0⟩ := txtAt (H'.out.below (hbw _)) hlt
      have HNE := Lib.hid (fun (e : L[k] ≠ M[k]) => take_ne hkl hkl' e)
      have HEQ := Lib.hid (fun (e : L[k] = M[k]) => take_more hto.out hkl hkl' e)
      clear hbw
      generalize L[k] = x at *
      generalize M[k] = y at *
      have tx : (ByteArray.mk x.toArray).toList = x := Go.ByteArray.toList_eq _
      have ty : (ByteArray.mk y.toArray).toList = y := Go.ByteArray.toList_eq _
      cases k1 : (x == y) with
      | false =>
        have HX := Lib.hid (show decide (L = M) = false from decide_eq_false (HNE.out (fun e => by rw [e] at k1; simp at k1)))
        go_wp2
        go_quiet (fail)
        go_wp2
        go_ret
        exact ⟨by rw [HX.out]; rfl, drewN_more hdr.out _⟩
      | true =>
        have HT := Lib.hid (HEQ.out (by simpa using k1))
        go_wp2
        go_quiet (fail)
        go_wp2
        exact ⟨⟨k + 1, by omega, by go_num, HT.out, drewN_more hdr.out _⟩, by simp [intOf]; omega⟩
    · obtain rfl : k = n := by omega
      have HX := Lib.hid (show decide (L = M) = true from decide_eq_true (take_whole hto.out HL.out HM.out))
      go_wp2
      go_ret
      exact ⟨by rw [HX.out]; rfl, hdr.out⟩
set_option maxRecDepth 100000 in
set_option maxHeartbeats 1000000 in
theorem sameUnit_any {w : World} {B : Nat} (a b : SV) (a1 : Slc w B 1 a.A a.n a.c (a.req.map encStr)) (a2 : Slc w B 1 a.A2 a.n2 a.c2 (a.aft.map encStr)) (b1 : Slc w B 1 b.A b.n b.c (b.req.map encStr)) (b2 : Slc w B 1 b.A2 b.n2 b.c2 (b.aft.map encStr)) (hB : B ≤ w.heap.size) :
    Calls Tryz.prog 79 #[.agg (svArr a), .agg (svArr b)] w fun e w' => e = .returned (.bool (decide (a.srv = b.srv))) ∧ Below w.heap.size w w' := by
  obtain ⟨an, asx, ar, aA, an1, ac1, aa, aA2, an2, ac2⟩ := a
  obtain ⟨bn, bsx, br, bA, bn1, bc1, ba, bA2, bn2, bc2⟩ := b
  simp only at a1 a2 b1 b2
  have hb1 : Below w.heap.size w ((w.alloc (.cells #[.string ⟨an.toArray⟩, .string ⟨asx.toArray⟩, .slice aA an1 ac1, .slice aA2 an2 ac2] 59)).alloc (.cells #[.string ⟨bn.toArray⟩, .string ⟨bsx.toArray⟩, .slice bA bn1 bc1, .slice bA2 bn2 bc2] 59)) := ((Below.refl _ w).alloc (Nat.le_refl _) _).alloc (by simp) _
  have he1 := sameTexts_any (a1.below (hb1.mono hB)) (b1.below (hb1.mono hB))
  have he2 : ∀ q, _ := fun q => sameTexts_any (a2.below (bel_drewN (hb1.mono hB) q)) (b2.below (bel_drewN (hb1.mono hB) q))
  have HB1 := Lib.hid hb1
  have HE2 := Lib.hid he2
  have HS := Lib.hid (show ((⟨an, asx, ar, aa⟩ : Srv) = ⟨bn, bsx, br, ba⟩) ↔ (an = bn ∧ asx = bsx ∧ ar = br ∧ aa = ba) by simp)
  have t1 : (ByteArray.mk an.toArray).toList = an := Go.ByteArray.toList_eq _
  have t2 : (ByteArray.mk bn.toArray).toList = bn := Go.ByteArray.toList_eq _
  have t3 : (ByteArray.mk asx.toArray).toList = asx := Go.ByteArray.toList_eq _
  have t4 : (ByteArray.mk bsx.toArray).toList = bsx := Go.ByteArray.toList_eq _
  clear a1 a2 b1 b2 hb1 he2
  show Calls _ _ _ _ fun e w' => e = .returned (.bool (decide ((⟨an, asx, ar, aa⟩ : Srv) = ⟨bn, bsx, br, ba⟩))) ∧ Below w.heap.size w w'
  unfold svArr
  cases h1 : (an == bn) with
  | false =>
    have H := Lib.hid (show decide ((⟨an, asx, ar, aa⟩ : Srv) = ⟨bn, bsx, br, ba⟩) = false from decide_eq_false (fun h => by have := (HS.out.1 h).1; simp [this] at h1))
    go_enter Tryz.func79, Tryz.ntmps79
    go_wp2_with (go_at_call 56; first
          | (refine he1.mono ?_; clear he1; rintro e w1 ⟨rfl, q, rfl⟩; have he2 := HE2.out q)
          | (refine he2.mono ?_; clear he2; rintro e w2 ⟨rfl, q2, rfl⟩))
    go_ret
    exact ⟨by rw [H.out]; rfl, bel_drewN HB1.out _⟩
  | true =>
    cases h2 : (asx == bsx) with
    | false =>
      have H := Lib.hid (show decide ((⟨an, asx, ar, aa⟩ : Srv) = ⟨bn, bsx, br, ba⟩) = false from decide_eq_false (fun h => by have := (HS.out.1 h).2.1; simp [this] at h2))
      go_enter Tryz.func79, Tryz.ntmps79
      go_wp2_with (go_at_call 56; first
          | (refine he1.mono ?_; clear he1; rintro e w1 ⟨rfl, q, rfl⟩; have he2 := HE2.out q)
          | (refine he2.mono ?_; clear he2; rintro e w2 ⟨rfl, q2, rfl⟩))
      go_ret
      exact ⟨by rw [H.out]; rfl, bel_drewN HB1.out _⟩
    | true =>
      have HD := Lib.hid (show decide ((⟨an, asx, ar, aa⟩ : Srv) = ⟨bn, bsx, br, ba⟩) = (decide (ar = br) && decide (aa = ba)) by
        rw [Bool.eq_iff_iff, Bool.and_eq_true, decide_eq_true_iff, decide_eq_true_iff, decide_eq_true_iff]
        exact ⟨fun h => (HS.out.1 h).2.2, fun h => HS.out.2 ⟨by simpa using h1, by simpa using h2, h.1, h.2⟩⟩)
      generalize decide ((⟨an, asx, ar, aa⟩ : Srv) = ⟨bn, bsx, br, ba⟩) = D at *
      generalize decide (ar = br) = d1 at *
      generalize decide (aa = ba) = d2 at *
      have HD' := HD.out
      subst HD'
      clear HD HS
      cases d1 <;> cases d2 <;> (
        go_enter Tryz.func79, Tryz.ntmps79
        go_wp2_with (go_at_call 56; first
          | (refine he1.mono ?_; clear he1; rintro e w1 ⟨rfl, q, rfl⟩; have he2 := HE2.out q)
          | (refine he2.mono ?_; clear he2; rintro e w2 ⟨rfl, q2, rfl⟩))
        go_ret
        exact ⟨rfl, bel_drewN HB1.out _⟩)
end Go.Proofs.YtibndaianhlcaaaGreatDoor
namespace Go.Proofs.YtibndaianhlcaaaGreatDoor
open Go.RowKit Go.Sort Go.Shelf
set_option linter.unusedVariables false
set_option linter.unusedSimpArgs false

set_option maxRecDepth 100000 in
set_option maxHeartbeats 1000000 in
theorem sameUnits_any {w : World} {B : Nat} {A A' : Option Addr} {n n' c c' : Nat} {us vs : List SV} (h : UnitsAt w B A n c us) (h' : UnitsAt w B A' n' c' vs) (hB : B ≤ w.heap.size) :
    Calls Tryz.prog 57 #[.slice A n c, .slice A' n' c'] w fun e w' => e = .returned (.bool (decide (us.map SV.srv = vs.map SV.srv))) ∧ Below w.heap.size w w' := by
  obtain ⟨L, hL⟩ : ∃ L, L = us.map SV.srv := ⟨_, rfl⟩
  obtain ⟨M, hM⟩ : ∃ M, M = vs.map SV.srv := ⟨_, rfl⟩
  rw [← hL, ← hM]
  have hLn : L.length = n := by rw [hL, List.length_map, h.len]
  have hMn : M.length = n' := by rw [hM, List.length_map, h'.len]
  have hn62 : n ≤ 9223372036854775807 := by have h1 := h.slc.le; have h2 := h.slc.cmax; unfold maxLen at h2; omega
  have H := Lib.hid h
  have H' := Lib.hid h'
  have HL := Lib.hid hL
  have HM := Lib.hid hM
  have HLN := Lib.hid hLn
  have HMN := Lib.hid hMn
  have HB := Lib.hid hB
  by_cases hne : n = n'
  case neg =>
    have HX := Lib.hid (show decide (L = M) = false from decide_eq_false (fun e => hne (by rw [← hLn, ← hMn, e])))
    have hk : ((n : Int) != (n' : Int)) = true := by simp; omega
    clear h h' hL hM hLn hMn hB
    go_enter Tryz.func57, Tryz.ntmps57
    go_wp2
    go_ret
    exact ⟨by rw [HX.out]; rfl, Below.refl _ _⟩
  subst hne
  clear h h' hL hM hLn hMn hB
  go_enter Tryz.func57, Tryz.ntmps57
  go_wp2
  go_loopw [5, 6] (fun i _ wr => ∃ k : Nat, k ≤ n ∧ i = .int .i64 (k : Int) ∧ Aside (L.take k = M.take k) ∧ Aside (Below w.heap.size w wr)) (fun i _ _ => n - (intOf i).toNat)
  case atStart => exact ⟨0, Nat.zero_le _, rfl, rfl, Below.refl _ _⟩
  case round =>
    obtain ⟨k, hk, rfl, hto, hb⟩ := hrel
    by_cases hlt : k < n
    · obtain ⟨g, off, rfl, hgB, hkl, c0, c1, c2, c3, p1, p2⟩ := (H.out.below (hb.out.mono HB.out)).at_ hlt
      obtain ⟨g', off', rfl, hgB', hkl', d0, d1, d2, d3, q1, q2⟩ := (H'.out.below (hb.out.mono HB.out)).at_ hlt
      have hkL : k < L.length := by rw [HLN.out]; exact hlt
      have hkM : k < M.length := by rw [HMN.out]; exact hlt
      have e1 : L[k] = us[k].srv := by have := HL.out; subst this; simp
      have e2 : M[k] = vs[k].srv := by have := HM.out; subst this; simp
      have HNE := Lib.hid (fun (e : L[k] ≠ M[k]) => take_ne hkL hkM e)
      have HEQ := Lib.hid (fun (e : L[k] = M[k]) => take_more hto.out hkL hkM e)
      rw [e1, e2] at HNE HEQ
      clear e1 e2
      generalize us[k] = x at *
      generalize vs[k] = y at *
      have hbd := hb.out.size
      have hs := sameUnit_any (w := wr.drew) x y p1.drew p2.drew q1.drew q2.drew (Nat.le_trans HB.out hb.out.size)
      generalize hxd : decide (x.srv = y.srv) = d at *
      obtain ⟨an, asx, ar, aA, an1, ac1, aa, aA2, an2, ac2⟩ := x
      obtain ⟨bn, bsx, br, bA, bn1, bc1, ba, bA2, bn2, bc2⟩ := y
      unfold svArr at hs
      simp only at c0 c1 c2 c3 d0 d1 d2 d3 hs
      clear p1 p2 q1 q2 hgB hgB'
      cases d with
      | false =>
        have HX := Lib.hid (show decide (L = M) = false from decide_eq_false (HNE.out (of_decide_eq_false hxd)))
        clear hxd
        go_wp2_with (fail)
        refine region_tail 8 (by kernel_rfl) (by kernel_rfl) ?_
        simp only [List.take_succ_cons, List.take_zero, List.drop_succ_cons, List.drop_zero]
        repeat still_step
        refine wpStill_nil ?_
        go_wp2_with (go_at_call 79; refine hs.mono ?_; clear hs; rintro e9 w9 ⟨rfl, hb9⟩; have HB9 := Lib.hid (hb.out.trans (((Below.refl _ wr).drew.trans hb9).mono hb.out.size)); clear hb9)
        go_ret
        exact ⟨by rw [HX.out]; rfl, HB9.out⟩
      | true =>
        have HT := Lib.hid (HEQ.out (of_decide_eq_true hxd))
        clear hxd
        go_wp2_with (fail)
        refine region_tail 8 (by kernel_rfl) (by kernel_rfl) ?_
        simp only [List.take_succ_cons, List.take_zero, List.drop_succ_cons, List.drop_zero]
        repeat still_step
        refine wpStill_nil ?_
        go_wp2_with (go_at_call 79; refine hs.mono ?_; clear hs; rintro e9 w9 ⟨rfl, hb9⟩; have HB9 := Lib.hid (hb.out.trans (((Below.refl _ wr).drew.trans hb9).mono hb.out.size)); clear hb9)
        exact ⟨⟨k + 1, by omega, by go_num, HT.out, HB9.out⟩, by simp [intOf]; omega⟩
    · obtain rfl : k = n := by omega
      have HX := Lib.hid (show decide (L = M) = true from decide_eq_true (take_whole hto.out HLN.out HMN.out))
      go_wp2
      go_ret
      exact ⟨by rw [HX.out]; rfl, hb.out⟩
/-- What is observed, as memory has it. -/
structure OV where
  A : Option Addr
  n : Nat
  c : Nat
  es : List EV
  A2 : Option Addr
  n2 : Nat
  c2 : Nat
  users : List Txt
  A3 : Option Addr
  n3 : Nat
  c3 : Nat
  us : List SV
def ovArr (o : OV) : Array Value := #[.slice o.A o.n o.c, .slice o.A2 o.n2 o.c2, .slice o.A3 o.n3 o.c3]
structure ObsAt (w : World) (B : Nat) (o : OV) : Prop where
  files : EntsAt w B o.A o.n o.c o.es
  users : Slc w B 1 o.A2 o.n2 o.c2 (o.users.map encStr)
  units : UnitsAt w B o.A3 o.n3 o.c3 o.us
theorem ObsAt.below {w w' : World} {B : Nat} {o : OV} (h : ObsAt w B o) (hb : Below B w w') : ObsAt w' B o := ⟨h.files.below hb, h.users.below hb, h.units.below hb⟩
def sameO (a b : OV) : Bool := entsEq (a.es.map EV.ent) (b.es.map EV.ent) && decide (a.users = b.users) && decide (a.us.map SV.srv = b.us.map SV.srv)
theorem sameO_iff (a b : OV) : sameO a b = true ↔ a.es.map EV.ent = b.es.map EV.ent ∧ a.users = b.users ∧ a.us.map SV.srv = b.us.map SV.srv := by
  unfold sameO
  rw [Bool.and_eq_true, Bool.and_eq_true, entsEq_iff, decide_eq_true_iff, decide_eq_true_iff, and_assoc]
set_option maxRecDepth 100000 in
set_option maxHeartbeats 1000000 in
theorem same20_any {w : World} {B : Nat} {a b : OV} (ha : ObsAt w B a) (hb : ObsAt w B b) (hB : B ≤ w.heap.size) :
    Calls Tryz.prog 24 #[.agg (ovArr a), .agg (ovArr b)] w fun e w' => e = .returned (.bool (sameO a b)) ∧ Below w.heap.size w w' := by
  unfold ovArr sameO
  obtain ⟨A, n, c, es, A2, n2, c2, us, A3, n3, c3, vs⟩ := a
  obtain ⟨A', n', c', es', A2', n2', c2', us', A3', n3', c3', vs'⟩ := b
  obtain ⟨a1, a2, a3⟩ := ha
  obtain ⟨b1, b2, b3⟩ := hb
  simp only at a1 a2 a3 b1 b2 b3 ⊢
  have hb1 : Below w.heap.size w ((w.alloc (.cells #[.slice A n c, .slice A2 n2 c2, .slice A3 n3 c3] 28)).alloc (.cells #[.slice A' n' c', .slice A2' n2' c2', .slice A3' n3' c3'] 28)) := ((Below.refl _ w).alloc (Nat.le_refl _) _).alloc (by simp) _
  have h1 := refSame_any (a1.below (hb1.mono hB)) (b1.below (hb1.mono hB))
  have h2 : ∀ q, _ := fun q => sameTexts_any (a2.below (bel_drewN (hb1.mono hB) q)) (b2.below (bel_drewN (hb1.mono hB) q))
  have h3 : ∀ q, _ := fun q => sameUnits_any (a3.below (bel_drewN (hb1.mono hB) q)) (b3.below (bel_drewN (hb1.mono hB) q)) (Nat.le_trans hB (bel_drewN hb1 q).size)
  have HB1 := Lib.hid hb1
  have H2 := Lib.hid h2
  have H3 := Lib.hid h3
  clear a1 a2 a3 b1 b2 b3 hb1 h2 h3
  generalize entsEq (es.map EV.ent) (es'.map EV.ent) = d1 at *
  generalize decide (us = us') = d2 at *
  generalize decide (vs.map SV.srv = vs'.map SV.srv) = d3 at *
  cases d1 <;> cases d2 <;> (
    go_enter Tryz.func24, Tryz.ntmps24
    go_wp2_with (first
      | (go_at_call 14; refine h1.mono ?_; clear h1; rintro e w1 ⟨rfl, q, rfl⟩; have h2 := H2.out q)
      | (go_at_call 56; refine h2.mono ?_; clear h2; rintro e w2 ⟨rfl, q2, rfl⟩; have h3 := H3.out (q + q2))
      | (go_at_call 57; refine h3.mono ?_; clear h3; rintro e w3 ⟨rfl, hb3⟩))
    go_ret
    first
      | exact ⟨rfl, bel_drewN HB1.out _⟩
      | exact ⟨by simp, HB1.out.trans (((bel_drewN (Below.refl _ _) _).trans hb3).mono HB1.out.size)⟩)
end Go.Proofs.YtibndaianhlcaaaGreatDoor
namespace Go.Proofs.YtibndaianhlcaaaGreatDoor
open Go.RowKit Go.Sort Go.Shelf
set_option linter.unusedVariables false
set_option linter.unusedSimpArgs false

/-- Lengths that no step of a program reaches. -/
structure SmallV (s : Mach) (es : List EV) (us : List SV) : Prop where
  nf : s.files.length ≤ 1000000
  nu : s.users.length ≤ 1000000
  nn : s.units.length ≤ 1000000
  data : ∀ e ∈ es, e.data.length ≤ 1000000000
  lists : ∀ u ∈ us, u.req.length ≤ 1000000000 ∧ u.aft.length ≤ 1000000000
theorem obs_users {W : World} {B : Nat} {A : Option Addr} {n c : Nat} {l : List Txt} (h : Slc W B 1 A n c (l.map encStr)) (hn : n ≤ 1000000000) (base : Nat) (hb : base ≤ W.heap.size) :
    ∃ A' c' w', (Builtin.append_ #[23, 23] 23 #[.slice none 0 0, .slice A n c]).run Tryz.prog W.drew = .ok (.slice A' n c') w' ∧ Row w' (fun k => base ≤ k) 9 1 (.slice A' n c') n (l.map encStr) ∧ Below W.heap.size W w' := by
  obtain ⟨i, hi, hz0, hz1, hz2⟩ := info_parts str_info
  obtain ⟨A', c', w', r1, r2, r3, _⟩ := append_slc (P := Tryz.prog) W.drew W.heap.size 23 23 _ i _ 1 16 Tryz.underlying23 hi hz0 hz1 hz2 rfl (by decide) (.slice none 0 0) 0 [] (World.ownsRow_nil _ _ _ _) B A n c _ h.drew (strs_one l) (by unfold maxLen; omega) (by omega) (by simp)
  rw [Nat.zero_add] at r1 r2
  rw [List.nil_append] at r2
  refine ⟨A', c', w', r1, ⟨⟨r2.1, r2.2.imp id fun ⟨g, cap, cur, e, _, r⟩ => ⟨g, cap, cur, e, Nat.zero_le _, r⟩⟩, fun k hk => by have := (r2.lt k hk).1; show base ≤ k; omega⟩, ((Below.refl _ W).drew).grown r3 (Nat.le_refl _) (fun q hq => by cases hq)⟩
def obsPost (w : World) (s : Mach) : Ending → World → Prop := fun e w' => ∃ A n c es A2 n2 c2 A3 n3 c3 us, e = .returned (.agg #[.slice A n c, .slice A2 n2 c2, .slice A3 n3 c3]) ∧ ObsOut w w' s A n c es A2 n2 c2 A3 n3 c3 us
set_option maxRecDepth 100000 in
set_option maxHeartbeats 4000000 in
theorem observe_any {w : World} {F : Nat → Prop} {g : Nat} {s : Mach} {fA : Option Addr} {fn fc : Nat} {es : List EV} {uA : Option Addr} {un uc : Nat} {nA : Option Addr} {nn nc : Nat} {us : List SV} {pA : Option Addr} {pn pc : Nat} (h : MachV w F g s fA fn fc es uA un uc nA nn nc us pA pn pc) (hs : SmallV s es us) :
    Calls Tryz.prog 25 #[.pointer (some ⟨g, 0, none⟩)] w (obsPost w s) := by
  have hfn : fn ≤ 1000000 := by have := h.flen.2; have := hs.nf; omega
  have hun : un ≤ 1000000 := by have := h.ulen; have := hs.nu; omega
  have hnn : nn ≤ 1000000 := by have := h.nlen.2; have := hs.nn; omega
  have hgl : g < w.heap.size := h.blk.lt
  have H := Lib.hid h
  have HSM := Lib.hid hs
  have HFL := Lib.hid h.flen
  have HNL := Lib.hid h.nlen
  obtain ⟨W0, hW0⟩ : ∃ W0, W0 = (w.alloc (.cells #[.slice none 0 0, .slice none 0 0, .slice none 0 0] 28)).alloc (.cells #[.slice none 0 0, .slice none 0 0, .slice none 0 0] 28) := ⟨_, rfl⟩
  have hO0 := ObsW.new w
  rw [← hW0] at hO0
  have HO0 := Lib.hid hO0
  have HW0 := Lib.hid hW0
  obtain ⟨m0, m1, m2, _, _⟩ := (h.below hO0.bel).facts
  rw [hW0] at m0
  clear m1 m2 h hs hO0 hW0
  go_enter Tryz.func25, Tryz.ntmps25
  go_wp2_with (fail)
  rw [← HW0.out]
  go_loopw [14] (fun i wr => ∃ (k : Nat) (A' : Option Addr) (c' : Nat) (es' : List EV) (W : World), k ≤ fn ∧ i = .int .i64 (k : Int) ∧ Aside (ObsW w W (.slice A' k c') (.slice none 0 0) (.slice none 0 0)) ∧ Aside (OwnEnts wr (w.heap.size + 2) (.slice A' k c') k es') ∧ Aside (es'.map EV.ent = (es.take k).map EV.ent) ∧ Aside (Below (w.heap.size + 2) W wr)) (fun i _ => fn - (intOf i).toNat)
  case atStart => exact ⟨0, none, 0, [], W0, Nat.zero_le _, rfl, HO0.out, OwnEnts.nil _ _, rfl, Below.refl _ _⟩
  case round =>
    obtain ⟨k, A', c', es', W, hk, rfl, hO, ho, hmap, hb⟩ := hrel
    have hsz := hO.out.size
    have hbW : Below W.heap.size W wr := by rw [hsz]; exact hb.out
    have hbw := hO.out.bel2 hbW
    have hwr : w.heap.size + 2 ≤ wr.heap.size := by have := hbW.size; omega
    by_cases hlt : k < fn
    · obtain ⟨b, off, rfl, hbB, hl, c0, c1, c2, hS⟩ := (H.out.entsAt.below hbw).at_ hlt
      have hdl := HSM.out.data _ (List.getElem_mem hl)
      have HM := Lib.hid (show (es.take (k + 1)).map EV.ent = (es.take k).map EV.ent ++ [es[k].ent] by rw [List.take_succ_eq_append_getElem hl, List.map_append]; rfl)
      generalize es[k] = e at *
      have hen : e.n ≤ 1000000000 := by have := hS.len; rw [List.length_map] at this; omega
      have hoW := ho.out
      rw [← hsz] at hoW
      obtain ⟨W2, w3, g3, c3, A6, c6, w6, S, hb6⟩ := copy_step hoW hbW e hS hbw.size (by omega) hen
      have HR3 := Lib.hid S.r3
      have HR6 := Lib.hid S.r6
      have HO6 := Lib.hid S.own
      have HB6 := Lib.hid hb6
      have hb3 : Below W.heap.size W w3 := hbW.trans (S.bel3.mono hbW.size)
      obtain ⟨v0, _, _, vf, _⟩ := hO.out.facts hb3
      obtain ⟨_, _, _, _, hw6⟩ := hO.out.facts hb6
      have vf0 := vf 0
      have v6 := (hO.out.facts hb6).1
      have x0 := S.blk.cell 0
      have x1 := S.blk.cell 1
      have x2 := S.blk.cell 2
      have f2 := S.blk.frozen 2
      simp only [List.getElem?_toArray, List.getElem?_cons_zero, List.getElem?_cons_succ] at x0 x1 x2
      have hB2 := S.blk.set_ 2 (.slice (some ⟨g3, 0, none⟩) e.n c3)
      have y0 := hB2.cell 0
      have y1 := hB2.cell 1
      have y2 := hB2.cell 2
      simp only [List.setIfInBounds_toArray, List.set_cons_zero, List.set_cons_succ, List.getElem?_toArray, List.getElem?_cons_zero, List.getElem?_cons_succ] at y0 y1 y2
      have w30 : wr.heap.size < w3.heap.size := S.blk.lt
      have vf6 := (hO.out.facts hb6).2.2.2.1 0
      have hne : ¬ w.heap.size + 1 = wr.heap.size := by omega
      have HSZ := Lib.hid hsz
      clear S hS hb6 hB2 hdl hbW hbw hb3 vf hoW hsz
      go_wp2_with (first
        | (at_builtin; refine wpList_append_run rfl _ _ _ rfl rfl rfl HR3.out ?_; clear HR3)
        | (at_builtin; refine wpList_append_run rfl _ _ _ rfl rfl rfl HR6.out ?_; clear HR6))
      have HMX := Lib.hid (show (es' ++ [(⟨e.path, e.kind, e.data, some ⟨g3, 0, none⟩, e.n, c3⟩ : EV)]).map EV.ent = (es.take (k + 1)).map EV.ent by rw [HM.out, ← hmap.out, List.map_append]; rfl)
      refine ⟨⟨k + 1, A6, c6, _, W.setCell ⟨w.heap.size + 1, 0, none⟩ (.slice A6 (k + 1) c6), by omega, by go_num, hO.out.set_ 0 _, ?_, HMX.out, ?_⟩, by simp [intOf]; omega⟩
      · have ho6 := HO6.out
        rw [HSZ.out] at ho6
        exact ho6.set_ (fun e1 => by have h9 : w.heap.size + 2 ≤ w.heap.size + 1 := (ho6.own.lt _ e1).1; omega) (fun x hx q hq => by obtain ⟨q', h1, h2, _⟩ := ho6.data x hx; rw [hq] at h1; injection h1 with h1; injection h1 with h1; simp only; omega) _
      · have := below_both HB6.out ⟨w.heap.size + 1, 0, none⟩ (.slice A6 (k + 1) c6)
        rwa [HSZ.out] at this
    · obtain rfl : k = fn := by omega
      have HMF := Lib.hid (show es'.map EV.ent = s.files by rw [hmap.out, List.take_of_length_le (by have := HFL.out.1; omega), H.out.ents])
      obtain ⟨m0, m1, m2, _, _⟩ := (H.out.below hbw).facts
      clear m0
      obtain ⟨v0, v1, v2, vf, _⟩ := hO.out.facts hbW
      have vf1 := vf 1
      obtain ⟨A8, c8, w8, r8, hR8, hb8⟩ := obs_users ((H.out.users.slc').below hbw) (by omega) w.heap.size hbw.size
      have HR8 := Lib.hid r8
      have hb8W : Below W.heap.size W w8 := hbW.trans (hb8.mono hbW.size)
      have hO8 := hO.out.set_ 1 (.slice A8 un c8)
      have HO8 : Hid (ObsW w (W.setCell ⟨w.heap.size + 1, 1, none⟩ (.slice A8 un c8)) (.slice A' k c') (.slice A8 un c8) (.slice none 0 0)) := hO8
      obtain ⟨W9, hW9⟩ : ∃ W9, W9 = w8.setCell ⟨w.heap.size + 1, 1, none⟩ (.slice A8 un c8) := ⟨_, rfl⟩
      have HW9 := Lib.hid hW9
      have hb9 : Below (w.heap.size + 2) (W.setCell ⟨w.heap.size + 1, 1, none⟩ (.slice A8 un c8)) W9 := by
        have := below_both hb8W ⟨w.heap.size + 1, 1, none⟩ (.slice A8 un c8)
        rw [hsz] at this
        rw [hW9]
        exact this
      have HB9 := Lib.hid hb9
      have HF9 : Hid (OwnEnts W9 (w.heap.size + 2) (.slice A' k c') k es') := by
        have ho6 := ho.out.below hb8
        rw [hW9]
        exact ho6.set_ (fun e1 => by have h9 : w.heap.size + 2 ≤ w.heap.size + 1 := (ho6.own.lt _ e1).1; omega) (fun x hx q hq => by obtain ⟨q', h1, h2, _⟩ := ho6.data x hx; rw [hq] at h1; injection h1 with h1; injection h1 with h1; simp only; omega) _
      have HU9 : Hid (Row W9 (fun k => w.heap.size ≤ k) 9 1 (.slice A8 un c8) un (s.users.map encStr)) := by
        rw [hW9]
        exact hR8.other (set_other (hO.out.var.below hb8W hO.out.var.lt) (by decide) 1 _)
      have hbw9 : Below w.heap.size w W9 := HO8.out.bel.trans (hb9.mono (by omega))
      have m29 := (H.out.below hbw9).facts.2.2.1
      have v8f := ((hO.out.facts hb8W).2.2.2.1 1)
      have v81 := ((hO.out.facts hb8W).2.1)
      rw [hW9] at m29
      have HMM := Lib.hid m29
      clear r8 hR8 hb8 hb8W hO8 hW9 hb9 hbw9 hO ho hmap hb hbW hbw hsz vf m2 v2
      go_wp2_with (fail)
      refine region_tail 7 (by kernel_rfl) (by kernel_rfl) ?_
      simp only [List.take_succ_cons, List.take_zero, List.drop_succ_cons, List.drop_zero]
      repeat still_step
      refine wpStill_nil ?_
      go_wp2_with (at_builtin; refine wpList_append_run rfl _ _ _ rfl rfl rfl HR8.out ?_; clear HR8)
      rw [← HW9.out]
      clear HW9 HMM m29 v0 v1 m1 hwr
      go_loopw [45] (fun i wr => ∃ (j : Nat) (A3 : Option Addr) (c3 : Nat) (us' : List SV) (W : World), j ≤ nn ∧ i = .int .i64 (j : Int) ∧ Aside (ObsW w W (.slice A' k c') (.slice A8 un c8) (.slice A3 j c3)) ∧ Aside (OwnEnts wr (w.heap.size + 2) (.slice A' k c') k es') ∧ Aside (Row wr (fun k => w.heap.size ≤ k) 9 1 (.slice A8 un c8) un (s.users.map encStr)) ∧
        Aside (OwnU wr (fun k => w.heap.size + 2 ≤ k) A3 j c3 us') ∧ Aside (us'.map SV.srv = (us.take j).map SV.srv) ∧ Aside (Below (w.heap.size + 2) W wr)) (fun i _ => nn - (intOf i).toNat)
      case atStart => exact ⟨0, none, 0, [], _, Nat.zero_le _, rfl, HO8.out, HF9.out, HU9.out, OwnU.nil _ _, rfl, HB9.out⟩
      case round =>
        obtain ⟨j, A3, c3, us', W', hj, rfl, hO', ho', hU', hV', hmap', hb'⟩ := hrel
        have hsz := hO'.out.size
        have hbW : Below W'.heap.size W' wr := by rw [hsz]; exact hb'.out
        have hbw := hO'.out.bel2 hbW
        have hwr : w.heap.size + 2 ≤ wr.heap.size := by have := hbW.size; omega
        by_cases hlt : j < nn
        · obtain ⟨b, off, rfl, hbB, hl, c0, c1, c2, c3', hS1, hS2⟩ := ((H.out.unitsAt).below hbw).at_ hlt
          have hdl := HSM.out.lists _ (List.getElem_mem hl)
          have HM := Lib.hid (show (us.take (j + 1)).map SV.srv = (us.take j).map SV.srv ++ [us[j].srv] by rw [List.take_succ_eq_append_getElem hl, List.map_append]; rfl)
          generalize us[j] = u at *
          have hen : u.n ≤ 1000000000 ∧ u.n2 ≤ 1000000000 := by have h1 := hS1.len; have h2 := hS2.len; rw [List.length_map] at h1 h2; omega
          obtain ⟨W1, hW1⟩ : ∃ W1, W1 = wr.alloc (.cells (svArr u) 59) := ⟨_, rfl⟩
          have hb1 : Below wr.heap.size wr W1 := by rw [hW1]; exact (Below.refl _ wr).alloc (Nat.le_refl _) _
          have hz1 : W1.heap.size = wr.heap.size + 1 := by rw [hW1]; simp
          have hG1 : Blk W1 wr.heap.size 59 (svArr u) := by rw [hW1]; exact Blk.new _ _ _
          have hun' := unit_any (w := W1.drew) u (hS1.below (hb1.mono hbw.size)).drew (hS2.below (hb1.mono hbw.size)).drew (by show w.heap.size ≤ W1.heap.size; have := hbw.size; omega) hen
          obtain ⟨v0, v1, v2, vf, _⟩ := hO'.out.facts hbW
          have x0 := hG1.cell 0
          have x1 := hG1.cell 1
          have x2 := hG1.cell 2
          have x3 := hG1.cell 3
          rw [hW1] at x0 x1 x2 x3 hun'
          unfold svArr at hun' x0 x1 x2 x3
          simp only [List.getElem?_toArray, List.getElem?_cons_zero, List.getElem?_cons_succ] at x0 x1 x2 x3
          have HW1 := Lib.hid hW1
          have HB1 := Lib.hid hb1
          have HG1 := Lib.hid hG1
          have HBW := Lib.hid hbW
          have HSZ := Lib.hid hsz
          clear hW1 hb1 hG1 hbW hbw hsz hS1 hS2 hdl v0 v1 vf
          have hne2 : ¬ w.heap.size + 1 = wr.heap.size := by omega
          have hlt2 : w.heap.size + 1 < wr.heap.size := by omega
          have HHJ : Hid (j ≤ 1000000000) := by have : j ≤ 1000000000 := by omega
                                                exact this
          go_wp2_with (fail)
          go_region_law (first
            | (go_simp; go_at_call 58; refine hun'.mono ?_; clear hun'; rintro e9 w9 ⟨u', rfl, hU9⟩; obtain ⟨A4, c4, w10, hst⟩ := obs_unit (u := u) hO'.out HBW.out ho'.out hU'.out hV'.out hU9 HHJ.out; have HST := Lib.hid hst; have HSR := Lib.hid hU9.srv; have v9 := (hO'.out.facts hst.bel9).2.2.1; have v9z : w.heap.size + 1 < w9.heap.size := (Nat.lt_of_lt_of_le (by omega) (hO'.out.facts hst.bel9).2.2.2.2); have r10' := hst.run; unfold svArr at r10'; have r10 := Lib.hid r10'; clear r10'; have v10 := (hO'.out.facts hst.bel).2.2.1; have f10 := (hO'.out.facts hst.bel).2.2.2.1 2; clear hst hU9)
            | (refine step_append_at (by rfl) _ _ _ (by rfl) r10.out (by with_reducible rfl) (by rfl) (by rfl) (by rfl) ?_))
          all_goals go_wp2_with (fail)
          all_goals have HMX := Lib.hid (show (us' ++ [u']).map SV.srv = (us.take (j + 1)).map SV.srv by rw [HM.out, ← hmap'.out, List.map_append, List.map_cons, List.map_nil, HSR.out])
          all_goals refine ⟨⟨j + 1, A4, c4, _, W'.setCell ⟨w.heap.size + 1, 2, none⟩ (.slice A4 (j + 1) c4), by omega, by go_num, hO'.out.set_ 2 _, ?_, ?_, ?_, HMX.out, ?_⟩, by simp [intOf]; omega⟩
          all_goals first
            | (have ho6 := HST.out.files; exact ho6.set_ (fun e1 => by have h9 : w.heap.size + 2 ≤ w.heap.size + 1 := (ho6.own.lt _ e1).1; omega) (fun x hx q hq => by obtain ⟨q', h1, h2, _⟩ := ho6.data x hx; rw [hq] at h1; injection h1 with h1; injection h1 with h1; simp only; omega) _)
            | exact HST.out.users.other (set_other (hO'.out.var.below HST.out.bel hO'.out.var.lt) (by decide) 2 _)
            | exact HST.out.units.keep (fun q hq hF => Below.heap_setCell _ _ _ _ (by intro e1; have h9 : w.heap.size + 2 ≤ q := hF; simp only at e1; omega))
            | (have h9 := below_both HST.out.bel ⟨w.heap.size + 1, 2, none⟩ (.slice A4 (j + 1) c4); rw [HSZ.out] at h9; exact h9)
        · obtain rfl : j = nn := by omega
          have HMU := Lib.hid (show us'.map SV.srv = s.units by rw [hmap'.out, List.take_of_length_le (by have := HNL.out.1; omega), H.out.srvs])
          obtain ⟨v0, v1, v2, vf, _⟩ := hO'.out.facts hbW
          have hR := hO'.out.res.below hbW hO'.out.res.lt
          have q0 := hR.cell 0
          have q1 := hR.cell 1
          have q2 := hR.cell 2
          have qf0 := hR.frozen 0
          have qf1 := hR.frozen 1
          have qf2 := hR.frozen 2
          have HRES : Hid (Blk (((wr.setCell ⟨w.heap.size, 0, none⟩ (.slice A' k c')).setCell ⟨w.heap.size, 1, none⟩ (.slice A8 un c8)).setCell ⟨w.heap.size, 2, none⟩ (.slice A3 j c3)) w.heap.size 28 #[.slice A' k c', .slice A8 un c8, .slice A3 j c3]) :=
            ((hR.set_ 0 (.slice A' k c')).set_ 1 (.slice A8 un c8)).set_ 2 (.slice A3 j c3)
          have HOUT := Lib.hid (obs_end hO'.out hbW ho'.out HMF.out hU'.out hV'.out HMU.out (.slice A' k c') (.slice A8 un c8) (.slice A3 j c3))
          clear hR hbW hbw hsz vf
          go_wp2_with (fail)
          exact bodyPost_ret (results_aggr (t := 2) (g := w.heap.size) rfl rfl Tryz.isAgg28 Tryz.sizeOf28 rfl HRES.out) rfl ⟨_, _, _, _, _, _, _, _, _, _, _, rfl, HOUT.out⟩
end Go.Proofs.YtibndaianhlcaaaGreatDoor
namespace Go.Proofs.YtibndaianhlcaaaGreatDoor
open Go.RowKit Go.Sort Go.Shelf
set_option linter.unusedVariables false
set_option linter.unusedSimpArgs false

/-- Sizes that memory can hold. -/
structure SmallM (s : Mach) : Prop where
  data : ∀ x ∈ s.files, x.data.length ≤ 1000000000
  lists : ∀ u ∈ s.units, u.req.length ≤ 1000000000 ∧ u.aft.length ≤ 1000000000
structure SmallP (a : ActP) : Prop where
  data : a.file.data.length ≤ 1000000000
  lists : a.unit.req.length ≤ 1000000000 ∧ a.unit.aft.length ≤ 1000000000
theorem small_new : SmallM newM := ⟨(fun x h => by cases h), (fun u h => by cases h)⟩
theorem small_ite {c : Prop} [Decidable c] {x y : Mach × Int} (h1 : SmallM x.1) (h2 : SmallM y.1) : SmallM (if c then x else y).1 := by
  split
  · exact h1
  · exact h2
theorem doM_small {s : Mach} (h : SmallM s) {a : ActP} (ha : SmallP a) : SmallM (doM s a).1 := by
  obtain ⟨h1, h2⟩ := h
  unfold doM doStop doFile doUser doStart
  repeat' first
    | apply small_ite
    | exact ⟨h1, h2⟩
    | exact ⟨h1, fun u hu => h2 u (List.mem_of_mem_eraseIdx hu)⟩
    | exact ⟨fun x hx => h1 x (List.mem_filter.1 hx).1, h2⟩
    | exact ⟨fun x hx => by rcases List.mem_or_eq_of_mem_set hx with h | rfl; exact h1 x h; exact ha.data, h2⟩
    | exact ⟨fun x hx => by rcases mem_ins hx with h | rfl; exact h1 x h; exact ha.data, h2⟩
    | exact ⟨h1, fun u hu => by rcases List.mem_append.1 hu with h | h; exact h2 u h; rw [List.mem_singleton.1 h]; exact ha.lists⟩
theorem MachV.small {w : World} {F : Nat → Prop} {g : Nat} {s : Mach} {fA : Option Addr} {fn fc : Nat} {es : List EV} {uA : Option Addr} {un uc : Nat} {nA : Option Addr} {nn nc : Nat} {us : List SV} {pA : Option Addr} {pn pc : Nat} (h : MachV w F g s fA fn fc es uA un uc nA nn nc us pA pn pc) (hg : GoodM s) (hs : SmallM s) : SmallV s es us :=
  ⟨by have := hg.nf; omega, by have := hg.nu; omega, by have := hg.nn; omega, fun e he => hs.data e.ent (by rw [← h.ents]; exact List.mem_map.2 ⟨e, he, rfl⟩), fun u hu => hs.lists u.srv (by rw [← h.srvs]; exact List.mem_map.2 ⟨u, hu, rfl⟩)⟩
/-- A machine in a law's run. -/
structure MRun (w : World) (B : Nat) (W : World) (F : Nat → Prop) (g : Nat) (s : Mach) : Prop where
  mach : MachAt W F g s
  good : GoodM s
  small : SmallM s
  foot : ∀ k, F k → k = g ∨ B ≤ k
  lt : ∀ k, F k → k < W.heap.size
  bel : Below w.heap.size w W
  g0 : w.heap.size ≤ g
  b0 : w.heap.size ≤ B
  b1 : B ≤ W.heap.size
theorem MRun.low {w W : World} {B : Nat} {F : Nat → Prop} {g : Nat} {s : Mach} (h : MRun w B W F g s) : ∀ k, F k → w.heap.size ≤ k := fun k hk => by
  have h1 := h.g0
  have h2 := h.b0
  rcases h.foot k hk with h | h <;> omega
theorem MRun.below {w W W' : World} {B : Nat} {F : Nat → Prop} {g : Nat} {s : Mach} (h : MRun w B W F g s) (hb : Below W.heap.size W W') : MRun w B W' F g s := by
  obtain ⟨fA, fn, fc, es, uA, un, uc, nA, nn, nc, us, pA, pn, pc, hm⟩ := h.mach
  have hs := hb.size
  have hz := h.bel.size
  exact ⟨⟨fA, fn, fc, es, uA, un, uc, nA, nn, nc, us, pA, pn, pc, hm.below hb⟩, h.good, h.small, h.foot, fun k hk => by have := h.lt k hk; omega, h.bel.trans (hb.mono hz), h.g0, h.b0, Nat.le_trans h.b1 hs⟩
theorem MRun.did {w W W' : World} {B : Nat} {F : Nat → Prop} {g : Nat} {s : Mach} (h : MRun w B W F g s) {a : ActP} (ha : SmallP a) {e : Ending} (hp : MachPost W F g (doM s a) e W') :
    e = .returned (.int .i64 (doM s a).2) ∧ MRun w B W' (Fn F W W') g (doM s a).1 ∧ Step W W' F (Fn F W W') := by
  have hs := hp.2.2.size
  have hz := h.bel.size
  have hb1 := h.b1
  refine ⟨hp.1, ⟨hp.2.1, doM_good h.good a, doM_small h.small ha, fun k hk => ?_, fun k hk => ?_, h.bel.trans (hp.2.2.below hz h.low), h.g0, h.b0, by omega⟩, hp.2.2⟩
  · rcases hk with hk | hk
    · exact h.foot k hk
    · exact .inr (by omega)
  · rcases hk with hk | hk
    · have := h.lt k hk; omega
    · exact hk.2
/-- A step that is asked of a machine in a run. -/
theorem MRun.do_ {w W : World} {B : Nat} {F : Nat → Prop} {g : Nat} {s : Mach} (h : MRun w B W F g s) {a : AV} {C : Nat} (ha : ActAt W C a) (hC : C ≤ W.heap.size) (hs : SmallA a) (hap : ActApart F a) :
    Calls Tryz.prog 42 #[.pointer (some ⟨g, 0, none⟩), .agg (avArr a)] W (MachPost W F g (doM s a.act)) :=
  do_any h.mach h.good ha hC hs hap h.lt
theorem MRun.seen {w W : World} {B : Nat} {F : Nat → Prop} {g : Nat} {s : Mach} (h : MRun w B W F g s) : Calls Tryz.prog 25 #[.pointer (some ⟨g, 0, none⟩)] W (obsPost W s) := by
  obtain ⟨fA, fn, fc, es, uA, un, uc, nA, nn, nc, us, pA, pn, pc, hm⟩ := h.mach
  exact observe_any hm (hm.small h.good h.small)
theorem MRun.planned {w W W' : World} {B : Nat} {F : Nat → Prop} {g : Nat} {s : Mach} (h : MRun w B W F g s) {p : List Bool} (hm : MachAt W' (Fn F W W') g ⟨s.files, s.users, s.units, p⟩) (hst : Step W W' F (Fn F W W')) : MRun w B W' (Fn F W W') g ⟨s.files, s.users, s.units, p⟩ := by
  have hs := hst.size
  have hz := h.bel.size
  have hb1 := h.b1
  obtain ⟨g1, g2, g3, g4, g5, g6, g7⟩ := h.good
  refine ⟨hm, ⟨g1, g2, g3, g4, g5, g6, g7⟩, ⟨h.small.data, h.small.lists⟩, fun k hk => ?_, fun k hk => ?_, h.bel.trans (hst.below hz h.low), h.g0, h.b0, by omega⟩
  · rcases hk with hk | hk
    · exact h.foot k hk
    · exact .inr (by omega)
  · rcases hk with hk | hk
    · have := h.lt k hk; omega
    · exact hk.2
/-- A block that no step of the machine reaches. -/
structure KeepB (W : World) (F : Nat → Prop) (g : Nat) (t : TypeId) (cs : Array Value) : Prop where
  blk : Blk W g t cs
  out : ¬ F g
theorem KeepB.step {W W' : World} {F : Nat → Prop} {g : Nat} {t : TypeId} {cs : Array Value} (h : KeepB W F g t cs) (st : Step W W' F (Fn F W W')) : KeepB W' (Fn F W W') g t cs :=
  ⟨h.blk.step st h.out, fun hk => by rcases hk with hk | hk; exact h.out hk; have := h.blk.lt; omega⟩
theorem KeepB.below {W W' : World} {F : Nat → Prop} {g : Nat} {t : TypeId} {cs : Array Value} (h : KeepB W F g t cs) (hb : Below W.heap.size W W') : KeepB W' F g t cs := ⟨h.blk.below hb h.blk.lt, h.out⟩
theorem KeepB.new {W : World} {F : Nat → Prop} (hF : ∀ k, F k → k < W.heap.size) (t : TypeId) (cs : Array Value) : KeepB (W.alloc (.cells cs t)) F W.heap.size t cs := ⟨Blk.new _ _ _, fun h => by have := hF _ h; omega⟩
theorem bel_new (W : World) (o : Obj) : Below W.heap.size W (W.alloc o) := (Below.refl _ W).alloc (Nat.le_refl _) o
theorem ObsOut.nn {w w' : World} {s : Mach} {A : Option Addr} {n c : Nat} {es : List EV} {A2 : Option Addr} {n2 c2 : Nat} {A3 : Option Addr} {n3 c3 : Nat} {us : List SV} (h : ObsOut w w' s A n c es A2 n2 c2 A3 n3 c3 us) : n3 = s.units.length := by
  have h1 := h.units.len
  have h2 := congrArg List.length h.srvs
  rw [List.length_map] at h2
  omega
theorem load_act_mark (x : Value) : Instr.loadAt 61 x = LoadS 61 x := rfl
theorem load_obs_mark (x : Value) : Instr.loadAt 28 x = LoadS 28 x := rfl
theorem load_act {w : World} {g : Nat} {cs : Array Value} (h : Blk w g 61 cs) (hc : cs.size = 9) : (LoadS 61 (.pointer (some ⟨g, 0, none⟩))).run Tryz.prog w = .ok (.agg cs) w := by
  have h1 := LoadS.of_blk (P := Tryz.prog) (n := 9) (o := 0) h Tryz.underlying61 rfl (by kernel_rfl) (by omega)
  rwa [show cs.extract 0 (0 + 9) = cs by rw [← hc, Nat.zero_add, Array.extract_size]] at h1
theorem load_obs {w : World} {g : Nat} {cs : Array Value} (h : Blk w g 28 cs) (hc : cs.size = 3) : (LoadS 28 (.pointer (some ⟨g, 0, none⟩))).run Tryz.prog w = .ok (.agg cs) w := by
  have h1 := LoadS.of_blk (P := Tryz.prog) (n := 3) (o := 0) h Tryz.underlying28 rfl (by kernel_rfl) (by omega)
  rwa [show cs.extract 0 (0 + 3) = cs by rw [← hc, Nat.zero_add, Array.extract_size]] at h1
theorem slc_none (w : World) (B sz : Nat) : Slc w B sz none 0 0 [] := ⟨by simp, Nat.le_refl _, Nat.zero_le _, fun h => absurd h (by decide)⟩
end Go.Proofs.YtibndaianhlcaaaGreatDoor
