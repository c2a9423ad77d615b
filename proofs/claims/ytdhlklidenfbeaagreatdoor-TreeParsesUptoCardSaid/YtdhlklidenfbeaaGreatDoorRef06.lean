/- The walk of the reference's Path (bootjackref06). -/
import Derived.Test.YtdhlklidenfbeaaGreatDoorRefName
import Derived.Test.YtdhlklidenfbeaaGreatDoorRef06P
import Derived.Test.YtdhlklidenfbeaaGreatDoorTreeRefs
namespace Go.Proofs.YtdhlklidenfbeaaGreatDoor
open Go.RowKit Go.Sort
set_option linter.unusedVariables false
set_option linter.unusedSimpArgs false

def RefPathPost (w : World) (s : Txt) : Ending → World → Prop := fun e w' => ∃ A n c, e = .returned (.tuple #[.slice A n c, .bool (pathNames s).isSome]) ∧ (∀ l, pathNames s = some l → w'.ownsRow w.heap.size 9 1 (.slice A n c) n (l.map encStr)) ∧ Below w.heap.size w w'
/-- What is known ahead of place q of a text '/' and r. -/
def PathAt (r : Txt) (p q : Nat) (out : List Txt) : Prop := 1 ≤ p ∧ 1 ≤ q ∧ ((q ≤ r.length + 1 ∧ PathInv r (p - 1) (q - 1) out) ∨ (q = r.length + 2 ∧ splitS r = out ∧ out.all nameB = true))
theorem nameAt_cut (r : Txt) (p q : Nat) (hp : 1 ≤ p) (hpq : p ≤ q) : (ByteArray.mk (47 :: r : Txt).toArray).extract p q = ⟨(nameAt r (p - 1) (q - 1)).toArray⟩ := by
  apply Go.WideShapes.bytes_inj
  obtain ⟨f, rfl⟩ : ∃ f, p = f + 1 := ⟨p - 1, by omega⟩
  simp [List.extract_eq_take_drop, nameAt]
  congr 1
  omega
theorem nameAt_length (r : Txt) (f k : Nat) : (nameAt r f k).length ≤ r.length := by
  unfold nameAt
  rw [List.length_take, List.length_drop]
  omega

set_option maxRecDepth 100000 in
set_option maxHeartbeats 2000000 in
theorem refPath_any (s : Txt) (w : World) (hs : s.length ≤ maxLen) :
    Calls Tryz.prog 122 #[.string ⟨s.toArray⟩] w (RefPathPost w s) := by
  have hs' : s.length ≤ 9223372036854775807 := by unfold maxLen at hs; omega
  have tl : (ByteArray.mk s.toArray).toList = s := Go.ByteArray.toList_eq _
  by_cases h1 : s = [47]
  · subst h1
    go_enter Tryz.func122, Tryz.ntmps122
    go_wp2
    go_ret2
    exact ⟨none, 0, 0, rfl, (fun l h => by rw [pathNames_one] at h; injection h with h; subst h; exact World.ownsRow_nil _ _ _ _), Below.refl _ _⟩
  have b1 : (s == [47]) = false := by simpa using h1
  by_cases hbad : s.length = 0 ∨ 200 < s.length ∨ s[0]? ≠ some 47
  · have HN := Lib.hid (pathNames_refuse hbad)
    have hq : s.length = 0 ∨ (¬ s.length = 0 ∧ 200 < s.length) ∨ (¬ s.length = 0 ∧ ¬ 200 < s.length ∧ ∃ h : 0 < s.length, s[0] ≠ 47) := by
      rcases hbad with h | h | h
      · exact .inl h
      · exact .inr (.inl ⟨by omega, h⟩)
      · by_cases h0 : s.length = 0
        · exact .inl h0
        · by_cases h2 : 200 < s.length
          · exact .inr (.inl ⟨h0, h2⟩)
          · refine .inr (.inr ⟨h0, h2, by omega, fun e => h ?_⟩)
            rw [List.getElem?_eq_getElem (by omega), e]
    clear hbad h1
    rcases hq with h0 | ⟨h0, h2⟩ | ⟨h0, h2, hp, h3⟩
    · have k0 : ((s.length : Int) == 0) = true := by rw [beq_iff_eq]; omega
      go_enter Tryz.func122, Tryz.ntmps122
      go_wp2
      go_ret2
      exact ⟨none, 0, 0, by rw [HN.out]; rfl, (fun l h => by rw [HN.out] at h; cases h), Below.refl _ _⟩
    · have k0 : ((s.length : Int) == 0) = false := by rw [beq_eq_false_iff_ne]; omega
      go_enter Tryz.func122, Tryz.ntmps122
      go_wp2
      go_ret2
      exact ⟨none, 0, 0, by rw [HN.out]; rfl, (fun l h => by rw [HN.out] at h; cases h), Below.refl _ _⟩
    · have k0 : ((s.length : Int) == 0) = false := by rw [beq_eq_false_iff_ne]; omega
      have hx : 0 < (ByteArray.mk s.toArray).size := hp
      have hc : (((ByteArray.mk s.toArray)[0].toNat : Int) != 47) = true := by
        show ((s[0].toNat : Int) != 47) = true
        have : s[0].toNat ≠ 47 := fun h => h3 (UInt8.toNat_inj.1 (by rw [h]; rfl))
        simp; omega
      clear h3
      go_enter Tryz.func122, Tryz.ntmps122
      go_wp2
      go_ret2
      exact ⟨none, 0, 0, by rw [HN.out]; rfl, (fun l h => by rw [HN.out] at h; cases h), Below.refl _ _⟩
  obtain ⟨r, hsr⟩ : ∃ r, s = 47 :: r := by
    cases s with
    | nil => exact absurd (.inl rfl) hbad
    | cons c r =>
      refine ⟨r, ?_⟩
      by_cases hc : c = 47
      · rw [hc]
      · exact absurd (.inr (.inr (fun e => hc (by simpa using e)))) hbad
  have hlen : s.length = r.length + 1 := by rw [hsr]; rfl
  have hr0 : r ≠ [] := fun e => h1 (by rw [hsr, e])
  have hL : s.length ≤ 200 := by
    rcases Nat.lt_or_ge 200 s.length with h | h
    · exact absurd (.inr (.inl h)) hbad
    · exact h
  have HPN := Lib.hid (show pathNames s = if (splitS r).all nameB = true ∧ (splitS r).length ≤ 16 then some (splitS r) else none by rw [hsr]; exact pathNames_slash r hr0 (by omega))
  have hx : 0 < (ByteArray.mk s.toArray).size := show 0 < s.length by omega
  have hc : (((ByteArray.mk s.toArray)[0].toNat : Int) != 47) = false := by
    subst hsr
    show (((47 : UInt8).toNat : Int) != 47) = false
    rfl
  have k0 : ((s.length : Int) == 0) = false := by rw [beq_eq_false_iff_ne]; omega
  have HCUT := Lib.hid (show ∀ p q, 1 ≤ p → p ≤ q → (ByteArray.mk s.toArray).extract p q = ⟨(nameAt r (p - 1) (q - 1)).toArray⟩ by rw [hsr]; exact fun p q h1 h2 => nameAt_cut r p q h1 h2)
  have HGET := Lib.hid (show ∀ q (h : q < s.length) (h' : q - 1 < r.length), 1 ≤ q → s[q] = r[q - 1] by
    subst hsr
    intro q h h' hq
    obtain ⟨k, rfl⟩ : ∃ k, q = k + 1 := ⟨q - 1, by omega⟩
    rfl)
  have HPI := Lib.hid (PathInv.zero r)
  have HLEN := Lib.hid hlen
  clear hbad h1 hs hr0 hlen hsr
  go_enter Tryz.func122, Tryz.ntmps122
  go_wp2_with (fail)
  go_loopw [4, 5, 6] (fun o f i wr => ∃ (p q : Nat) (out : List Txt) (A : Option Addr) (n c : Nat), q ≤ s.length + 1 ∧ p ≤ q ∧ 1 ≤ p ∧ i = .int .i64 (q : Int) ∧ f = .int .i64 (p : Int) ∧ o = .slice A n c ∧ Aside (PathAt r p q out) ∧ Aside (wr.ownsRow w.heap.size 9 1 (.slice A n c) n (out.map encStr)) ∧ Aside (Below w.heap.size w wr)) (fun _ _ i _ => s.length + 1 - (intOf i).toNat)
  case atStart => exact ⟨1, 1, [], none, 0, 0, by omega, Nat.le_refl _, Nat.le_refl _, rfl, rfl, rfl, ⟨Nat.le_refl _, Nat.le_refl _, .inl ⟨by have := HLEN.out; omega, HPI.out⟩⟩, World.ownsRow_nil _ _ _ _, Below.refl _ _⟩
  case round =>
    obtain ⟨p, q, out, A, n, c, hq, hpq, hp1, rfl, rfl, rfl, hat, hown, hb⟩ := hrel
    by_cases hlt : q ≤ s.length
    · have HI := Lib.hid (show PathInv r (p - 1) (q - 1) out by
        rcases hat.out.2.2 with h | h
        · exact h.2
        · have := HLEN.out; omega)
      clear hat
      have hex := HCUT.out p q hp1 hpq
      have hnl := nameAt_length r (p - 1) (q - 1)
      have hrl := HLEN.out
      have HNL := Lib.hid (show (nameAt r (p - 1) (q - 1)).length ≤ 200 by omega)
      have hnm := refName_any ⟨(nameAt r (p - 1) (q - 1)).toArray⟩ wr (by show (nameAt r (p - 1) (q - 1)).length ≤ maxLen; unfold maxLen; omega)
      have hnd : (ByteArray.mk (nameAt r (p - 1) (q - 1)).toArray).data.toList = nameAt r (p - 1) (q - 1) := rfl
      rw [hnd] at hnm
      clear hnl hnd hrl
      -- what a name that ends here makes
      have hcont : q < s.length ∧ (∃ h : q < s.length, s[q] ≠ 47) ∨ (q = s.length ∨ ∃ h : q < s.length, s[q] = 47) := by
        by_cases h : q < s.length
        · by_cases h' : s[q] = 47
          · exact .inr (.inr ⟨h, h'⟩)
          · exact .inl ⟨h, h, h'⟩
        · exact .inr (.inl (by omega))
      rcases hcont with ⟨hqs, _, hne⟩ | hend
      · have HNX := Lib.hid (show PathAt r p (q + 1) out from ⟨hp1, by omega, .inl ⟨by have := HLEN.out; omega, by
          have h := HI.out.other (by have := HLEN.out; omega) (by rw [← HGET.out q hqs (by have := HLEN.out; omega) (by omega)]; exact hne)
          rwa [show q - 1 + 1 = q + 1 - 1 by omega] at h⟩⟩)
        have hx2 : q < (ByteArray.mk s.toArray).size := hqs
        have hc2 : (((ByteArray.mk s.toArray)[q].toNat : Int) != 47) = true := by
          show ((s[q].toNat : Int) != 47) = true
          have : s[q].toNat ≠ 47 := fun h => hne (UInt8.toNat_inj.1 (by rw [h]; rfl))
          simp; omega
        clear hne hnm hex
        go_wp2_with (fail)
        exact ⟨⟨p, q + 1, out, A, n, c, by omega, by omega, hp1, by go_num, rfl, rfl, HNX.out, hown.out, hb.out⟩, by simp [intOf]; omega⟩
      · have HBAD := Lib.hid (fun (hn : nameB (nameAt r (p - 1) (q - 1)) = false) => HI.out.bad (by
          rcases hend with h | ⟨h, h'⟩
          · exact .inl (by have := HLEN.out; omega)
          · exact .inr ⟨by have := HLEN.out; omega, by rw [← HGET.out q h (by have := HLEN.out; omega) (by omega)]; exact h'⟩) hn)
        have HGOOD := Lib.hid (fun (hn : nameB (nameAt r (p - 1) (q - 1)) = true) => show PathAt r (q + 1) (q + 1) (out ++ [nameAt r (p - 1) (q - 1)]) from ⟨by omega, by omega, by
          rcases hend with h | ⟨h, h'⟩
          · refine .inr ⟨by have := HLEN.out; omega, HI.out.endEq (by have := HLEN.out; omega), ?_⟩
            rw [List.all_append, HI.out.names]
            simp [hn]
          · refine .inl ⟨by have := HLEN.out; omega, ?_⟩
            have h3 := HI.out.cut (by have := HLEN.out; omega) (by rw [← HGET.out q h (by have := HLEN.out; omega) (by omega)]; exact h') hn
            rwa [show q - 1 + 1 = q + 1 - 1 by omega] at h3⟩)
        have hlo : out.length ≤ 300 := by
          have h1 := splitS_mem_length' r
          have h3 := HLEN.out
          have h2 : out.length ≤ (splitS r).length := by rw [HI.out.split, List.length_append]; omega
          omega
        have hnl : n = out.length := by have := hown.out.1; rw [List.length_map] at this; omega
        have PREP : ∀ w2, Below wr.heap.size wr w2 → ∃ A4 c4 w4, (Builtin.append_ #[68, 68] 68 #[.slice A n c, .slice (some ⟨w2.heap.size, 0, none⟩) 1 1]).run Tryz.prog (w2.alloc (.cells #[.string ⟨(nameAt r (p - 1) (q - 1)).toArray⟩] 9)) = .ok (.slice A4 (n + 1) c4) w4 ∧
            w4.ownsRow w.heap.size 9 1 (.slice A4 (n + 1) c4) (n + 1) ((out ++ [nameAt r (p - 1) (q - 1)]).map encStr) ∧ Below w.heap.size w w4 := by
          intro w2 hb3
          have hsz := Nat.le_trans hb.out.size hb3.size
          obtain ⟨A4, c4, w4, h1, h2, h3, h4⟩ := append_str w2 w.heap.size _ n _ (own_below hown.out hb3) (nameAt r (p - 1) (q - 1)) (by omega) hsz
          refine ⟨A4, c4, w4, h1, h2, ?_⟩
          refine ((hb.out.trans (hb3.mono hb.out.size)).alloc hsz _).grown h3 (by simp; omega) (fun q hq => ?_)
          exact (hown.out.lt q hq).1
        have PREP := Lib.hid PREP
        clear hlo hnl
        generalize nameAt r (p - 1) (q - 1) = x at *
        have hcase : (s.length ≤ q ∧ ¬ q < s.length) ∨ ∃ hx2 : q < (ByteArray.mk s.toArray).size, q < s.length ∧ (((ByteArray.mk s.toArray)[q].toNat : Int) != 47) = false := by
          rcases hend with h | ⟨h, h'⟩
          · exact .inl ⟨by omega, by omega⟩
          · refine .inr ⟨h, h, ?_⟩
            show ((s[q].toNat : Int) != 47) = false
            rw [h']
            rfl
        clear hend
        cases hnx : nameB x with
        | false =>
          have HX := Lib.hid (show pathNames s = none by rw [HPN.out, if_neg]; rintro ⟨h, _⟩; rw [HBAD.out hnx] at h; cases h)
          rw [hnx] at hnm
          clear hnx
          rcases hcase with ⟨hq1, hq2⟩ | ⟨hx2, hq2, hc2⟩
          all_goals
            go_wp2_with (go_at_call 76; refine hnm.mono ?_; clear hnm; rintro e2 w2 ⟨rfl, hb2⟩)
            go_ret2
            exact ⟨none, 0, 0, by rw [HX.out]; rfl, (fun l h => by rw [HX.out] at h; cases h), hb.out.trans (hb2.mono hb.out.size)⟩
        | true =>
          have HX := Lib.hid (HGOOD.out hnx)
          rw [hnx] at hnm
          clear hnx
          rcases hcase with ⟨hq1, hq2⟩ | ⟨hx2, hq2, hc2⟩
          all_goals
            go_wp2_with (first
              | (go_at_call 76; refine hnm.mono ?_; clear hnm; rintro e2 w2 ⟨rfl, hb2⟩; obtain ⟨A4, c4, w4, hrun, hown4, hb4⟩ := PREP.out w2 hb2)
              | (at_builtin; refine wpList_append_run rfl _ _ _ rfl rfl rfl hrun ?_; clear hrun))
            exact ⟨⟨q + 1, q + 1, out ++ [x], A4, n + 1, c4, by omega, by omega, by omega, by go_num, by go_num, rfl, HX.out, hown4, hb4⟩, by simp [intOf]; omega⟩
    · have hout : splitS r = out ∧ out.all nameB = true := by
        rcases hat.out.2.2 with h | h
        · have := HLEN.out; omega
        · exact h.2
      have hl2 : n = out.length := by have := hown.out.1; rw [List.length_map] at this; omega
      have HB := Lib.hid hb.out
      by_cases h16 : n ≤ 16
      · have HX := Lib.hid (show pathNames s = some out by rw [HPN.out, hout.1, if_pos ⟨hout.2, by omega⟩])
        have HO := Lib.hid hown.out
        have k16 : decide ((n : Int) ≤ 16) = true := decide_eq_true (by omega)
        clear hout hl2
        go_wp2_with (fail)
        go_ret2
        exact ⟨A, n, c, by rw [HX.out]; rfl, (fun l h => by rw [HX.out] at h; injection h with h; subst h; exact HO.out), HB.out⟩
      · have HX := Lib.hid (show pathNames s = none by rw [HPN.out, hout.1, if_neg]; rintro ⟨_, h⟩; omega)
        have k16 : decide ((n : Int) ≤ 16) = false := decide_eq_false (by omega)
        clear hout hl2
        go_wp2_with (fail)
        go_ret2
        exact ⟨A, n, c, by rw [HX.out]; rfl, (fun l h => by rw [HX.out] at h; cases h), HB.out⟩
end Go.Proofs.YtdhlklidenfbeaaGreatDoor
