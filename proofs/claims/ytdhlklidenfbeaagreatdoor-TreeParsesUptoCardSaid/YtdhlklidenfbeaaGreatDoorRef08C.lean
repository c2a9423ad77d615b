/- The walks of the reference's Same and SameTexts (bootjackref08). -/
import Derived.Test.YtdhlklidenfbeaaGreatDoorTreeRefs
import Derived.Deep.QuietTactic
import Derived.BigQuiet
namespace Go.Proofs.YtdhlklidenfbeaaGreatDoor
open Go.RowKit Go.Sort
set_option linter.unusedVariables false
set_option linter.unusedSimpArgs false

/-- Two entries are the same. -/
def entEq (x y : Ent) : Bool := x.path == y.path && (x.kind == y.kind && x.data == y.data)
def entsEqTo (a b : List Ent) (k : Nat) : Bool := (List.range k).all fun i => match a[i]?, b[i]? with
  | some x, some y => entEq x y
  | _, _ => true
/-- Two lists are the same. -/
def entsEq (a b : List Ent) : Bool := decide (a.length = b.length) && entsEqTo a b a.length
theorem entsEqTo_succ (a b : List Ent) (k : Nat) (ha : k < a.length) (hb : k < b.length) : entsEqTo a b (k + 1) = (entsEqTo a b k && entEq a[k] b[k]) := by
  unfold entsEqTo
  rw [List.range_succ, List.all_append]
  simp [List.getElem?_eq_getElem ha, List.getElem?_eq_getElem hb]
theorem entEq_iff (x y : Ent) : entEq x y = true ↔ x = y := by
  obtain ⟨p, k, d⟩ := x
  obtain ⟨p', k', d'⟩ := y
  unfold entEq
  simp [Bool.and_eq_true]
theorem entsEqTo_false {a b : List Ent} {k : Nat} (h : entsEqTo a b k = false) : ∀ {n}, k ≤ n → entsEqTo a b n = false := by
  intro n hn
  unfold entsEqTo at *
  rw [List.all_eq_false] at *
  obtain ⟨x, hx, hp⟩ := h
  exact ⟨x, by rw [List.mem_range] at *; omega, hp⟩
theorem entsEq_iff (a b : List Ent) : entsEq a b = true ↔ a = b := by
  unfold entsEq
  rw [Bool.and_eq_true, decide_eq_true_iff]
  constructor
  · rintro ⟨hl, h⟩
    refine List.ext_getElem hl fun i h1 h2 => ?_
    unfold entsEqTo at h
    have := List.all_eq_true.1 h i (List.mem_range.2 h1)
    rw [List.getElem?_eq_getElem h1, List.getElem?_eq_getElem h2] at this
    exact (entEq_iff _ _).1 this
  · rintro rfl
    refine ⟨rfl, ?_⟩
    unfold entsEqTo
    rw [List.all_eq_true]
    intro i hi
    rw [List.mem_range] at hi
    rw [List.getElem?_eq_getElem hi]
    exact (entEq_iff _ _).2 rfl

theorem txt_beq (a b : Txt) : (a != b) = !decide (a = b) := by
  by_cases h : a = b <;> simp [h]

theorem dr_below {B : Nat} (w : World) (k : Nat) : Below B w (w.drewN k) := ⟨rfl, rfl, rfl, Nat.le_refl _, fun _ _ => rfl⟩
theorem drewN_more {w wr : World} (h : ∃ q, wr = w.drewN q) (n : Nat) : ∃ q, wr.drewN n = w.drewN q := by
  obtain ⟨q, rfl⟩ := h
  exact ⟨q + n, by unfold World.drewN; simp [Nat.add_assoc]⟩

set_option maxRecDepth 100000 in
set_option maxHeartbeats 2000000 in
theorem refSame_any {w : World} {B B' : Nat} {A A' : Option Addr} {n n' c c' : Nat} {es fs : List EV} (h : EntsAt w B A n c es) (h' : EntsAt w B' A' n' c' fs) :
    Calls Tryz.prog 17 #[.slice A n c, .slice A' n' c'] w fun e w' => e = .returned (.bool (entsEq (es.map EV.ent) (fs.map EV.ent))) ∧ ∃ q, w' = w.drewN q := by
  have hn62 : n ≤ 9223372036854775807 := by have h1 := h.slc.le; have h2 := h.slc.cmax; unfold maxLen at h2; omega
  have hn62' : n' ≤ 9223372036854775807 := by have h1 := h'.slc.le; have h2 := h'.slc.cmax; unfold maxLen at h2; omega
  obtain ⟨a, ha⟩ : ∃ a, a = es.map EV.ent := ⟨_, rfl⟩
  obtain ⟨b, hb⟩ : ∃ b, b = fs.map EV.ent := ⟨_, rfl⟩
  have hal : a.length = n := by rw [ha, List.length_map, h.len]
  have hbl : b.length = n' := by rw [hb, List.length_map, h'.len]
  rw [← ha, ← hb]
  have HA := Lib.hid ha
  have HBE := Lib.hid hb
  have HAL := Lib.hid hal
  have HBL := Lib.hid hbl
  have H := Lib.hid h
  have H' := Lib.hid h'
  by_cases hne : n = n'
  case neg =>
    have HX := Lib.hid (show entsEq a b = false by unfold entsEq; rw [decide_eq_false (by omega)]; rfl)
    have hk : ((n : Int) != (n' : Int)) = true := by simp; omega
    clear h h' ha hb hal hbl
    go_enter Tryz.func17, Tryz.ntmps17
    go_wp2
    go_ret
    exact ⟨by rw [HX.out]; rfl, 0, rfl⟩
  subst hne
  have HX := Lib.hid (show entsEq a b = entsEqTo a b n by unfold entsEq; rw [decide_eq_true (by omega), hal]; rfl)
  clear h h' ha hb hal hbl
  go_enter Tryz.func17, Tryz.ntmps17
  go_wp2
  go_loopw [5] (fun i wr => ∃ k : Nat, k ≤ n ∧ i = .int .i64 (k : Int) ∧ Aside (entsEqTo a b k = true) ∧ Aside (∃ q, wr = w.drewN q)) (fun i _ => n - (intOf i).toNat)
  case atStart => exact ⟨0, Nat.zero_le _, rfl, rfl, 0, rfl⟩
  case round =>
    obtain ⟨k, hk, rfl, hto, hdr⟩ := hrel
    have hbw : ∀ B, Below B w wr := fun B => by obtain ⟨q0, hq0⟩ := hdr.out; rw [hq0]; exact ⟨rfl, rfl, rfl, Nat.le_refl _, fun _ _ => rfl⟩
    by_cases hlt : k < n
    · obtain ⟨g, off, rfl, _, hkl, c0, c1, c2, hS⟩ := (H.out.below (hbw _)).at_ hlt
      obtain ⟨g', off', rfl, _, hkl', d0, d1, d2, hS'⟩ := (H'.out.below (hbw _)).at_ hlt
      have hka : k < a.length := by rw [HAL.out]; exact hlt
      have hkb : k < b.length := by rw [HBL.out]; exact hlt
      have HSU := Lib.hid (entsEqTo_succ a b k hka hkb)
      have hea : a[k] = es[k].ent := by have := HA.out; subst this; simp
      have heb : b[k] = fs[k].ent := by have := HBE.out; subst this; simp
      rw [hea, heb] at HSU
      have HF := Lib.hid (fun (he : entsEqTo a b (k + 1) = false) => show entsEq a b = false by rw [HX.out]; exact entsEqTo_false he (by omega))
      generalize es[k] = x at *
      generalize fs[k] = y at *
      have hcx := fun m : Nat => convert_bytes (P := Tryz.prog) Tryz.underlying32 Tryz.underlying5 (hS.below (dr_below wr m)) 9 Tryz.underlying9
      have hcy := fun m : Nat => convert_bytes (P := Tryz.prog) Tryz.underlying32 Tryz.underlying5 (hS'.below (dr_below wr m)) 9 Tryz.underlying9
      have tx : (ByteArray.mk x.path.toArray).toList = x.path := Go.ByteArray.toList_eq _
      have ty : (ByteArray.mk y.path.toArray).toList = y.path := Go.ByteArray.toList_eq _
      clear hea heb hka hkb hbw hS hS'
      have HGO := Lib.hid (fun (he : entEq x.ent y.ent = true) => show entsEqTo a b (k + 1) = true by rw [HSU.out, hto.out, he]; rfl)
      replace HF := Lib.hid (fun (he : entEq x.ent y.ent = false) => HF.out (by rw [HSU.out, he, Bool.and_false]))
      clear HSU
      unfold entEq EV.ent at HF HGO
      cases k1 : (x.path == y.path) with
      | false =>
        have HR := Lib.hid (HF.out (by simp only [k1]; rfl))
        go_wp2
        go_quiet (fail)
        go_wp2
        go_ret
        exact ⟨by rw [HR.out]; rfl, drewN_more hdr.out _⟩
      | true =>
        cases k2 : (x.kind == y.kind) with
        | false =>
          have HR := Lib.hid (HF.out (by simp only [k1, k2]; rfl))
          have k2' : (x.kind != y.kind) = true := by rw [bne, k2]; rfl
          go_wp2
          go_quiet (fail)
          go_wp2
          go_ret
          exact ⟨by rw [HR.out]; rfl, drewN_more hdr.out _⟩
        | true =>
          have k2' : (x.kind != y.kind) = false := by rw [bne, k2]; rfl
          have tdx : (ByteArray.mk x.data.toArray).toList = x.data := Go.ByteArray.toList_eq _
          have tdy : (ByteArray.mk y.data.toArray).toList = y.data := Go.ByteArray.toList_eq _
          cases k3 : (x.data == y.data) with
          | false =>
            have HR := Lib.hid (HF.out (by simp only [k1, k2, k3]; rfl))
            go_wp2
            go_quiet (fail)
            go_wp2
            go_ret
            exact ⟨by rw [HR.out]; rfl, drewN_more hdr.out _⟩
          | true =>
            have HR := Lib.hid (HGO.out (by simp only [k1, k2, k3]; rfl))
            go_wp2
            go_quiet (fail)
            go_wp2
            exact ⟨⟨k + 1, by omega, by go_num, HR.out, drewN_more hdr.out _⟩, by simp [intOf]; omega⟩
    · obtain rfl : k = n := by omega
      go_wp2
      go_ret
      exact ⟨by rw [HX.out, hto.out]; rfl, hdr.out⟩
end Go.Proofs.YtdhlklidenfbeaaGreatDoor
