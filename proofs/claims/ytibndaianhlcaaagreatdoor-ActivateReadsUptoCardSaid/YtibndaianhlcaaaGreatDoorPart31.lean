/- A path cut name by name, place by place: plain facts for the reference's Path (bootjackref06). The walk of the reference's Path (bootjackref06). The walks of the reference's one and Right (bootjackref08). The walk of the reference's Right (bootjackref08). -/
import Derived.Test.YtibndaianhlcaaaGreatDoorPart2
import Derived.Test.YtibndaianhlcaaaGreatDoorPart27
import Derived.Test.YtibndaianhlcaaaGreatDoorPart4
import Derived.Test.YtibndaianhlcaaaGreatDoorPart6
namespace Go.Proofs.YtibndaianhlcaaaGreatDoor
set_option linter.unusedVariables false
set_option linter.unusedSimpArgs false

/-- What is known ahead of place k: the names up to place f, and that no slash stands from f to k. -/
structure PathInv (r : Txt) (f k : Nat) (out : List Txt) : Prop where
  names : out.all nameB = true
  split : splitS r = out ++ splitS (r.drop f)
  le : f ≤ k
  len : k ≤ r.length
  free : (47 : UInt8) ∉ (r.drop f).take (k - f)
/-- The name that ends at place k. -/
def nameAt (r : Txt) (f k : Nat) : Txt := (r.drop f).take (k - f)
theorem PathInv.zero (r : Txt) : PathInv r 0 0 [] := ⟨rfl, rfl, Nat.le_refl _, Nat.zero_le _, by simp⟩
theorem drop_at (r : Txt) (f k : Nat) (hf : f ≤ k) (hk : k < r.length) : r.drop f = nameAt r f k ++ r[k] :: r.drop (k + 1) := by
  have h1 : (r.drop f).drop (k - f) = r[k] :: r.drop (k + 1) := by
    rw [List.drop_drop, show f + (k - f) = k by omega, List.drop_eq_getElem_cons hk]
  rw [← h1]
  exact (List.take_append_drop _ _).symm
theorem PathInv.other {r : Txt} {f k : Nat} {out : List Txt} (h : PathInv r f k out) (hk : k < r.length) (hc : r[k] ≠ 47) : PathInv r f (k + 1) out := by
  refine ⟨h.names, h.split, by have := h.le; omega, hk, ?_⟩
  have hd := drop_at r f k h.le hk
  have hn : (nameAt r f k).length = k - f := by unfold nameAt; rw [List.length_take, List.length_drop]; have := h.le; omega
  rw [hd, show k + 1 - f = (nameAt r f k).length + 1 by have := h.le; omega, List.take_length_add_append]
  intro hm
  rcases List.mem_append.1 hm with hm | hm
  · exact h.free hm
  · simp only [List.take_succ_cons, List.take_zero, List.mem_singleton] at hm
    exact hc hm.symm
theorem PathInv.cutEq {r : Txt} {f k : Nat} {out : List Txt} (h : PathInv r f k out) (hk : k < r.length) (hc : r[k] = 47) : splitS r = out ++ nameAt r f k :: splitS (r.drop (k + 1)) := by
  rw [h.split, drop_at r f k h.le hk, hc]
  exact congrArg (out ++ ·) (splitS_cut _ _ h.free)
theorem PathInv.cut {r : Txt} {f k : Nat} {out : List Txt} (h : PathInv r f k out) (hk : k < r.length) (hc : r[k] = 47) (hn : nameB (nameAt r f k) = true) : PathInv r (k + 1) (k + 1) (out ++ [nameAt r f k]) := by
  refine ⟨by rw [List.all_append, h.names]; simp [hn], ?_, Nat.le_refl _, hk, by simp⟩
  rw [h.cutEq hk hc, List.append_assoc]
  rfl
theorem PathInv.endEq {r : Txt} {f k : Nat} {out : List Txt} (h : PathInv r f k out) (hk : k = r.length) : splitS r = out ++ [nameAt r f k] := by
  subst hk
  have e : nameAt r f r.length = r.drop f := by unfold nameAt; rw [List.take_of_length_le (by rw [List.length_drop]; exact Nat.le_refl _)]
  rw [h.split, e]
  congr 1
  refine splitS_none _ ?_
  have := h.free
  rwa [show (r.drop f).take (r.length - f) = r.drop f from e] at this
theorem PathInv.bad {r : Txt} {f k : Nat} {out : List Txt} (h : PathInv r f k out) (hk : k = r.length ∨ ∃ hk : k < r.length, r[k] = 47) (hn : nameB (nameAt r f k) = false) : (splitS r).all nameB = false := by
  rcases hk with hk | ⟨hk, hc⟩
  · rw [h.endEq hk, List.all_append]; simp [hn]
  · rw [h.cutEq hk hc, List.all_append]; simp [hn]
/-- A path of one byte more, by its names. -/
theorem pathNames_slash (r : Txt) (h0 : r ≠ []) (h1 : r.length < 200) : pathNames (47 :: r) = if (splitS r).all nameB = true ∧ (splitS r).length ≤ 16 then some (splitS r) else none := by
  unfold pathNames
  simp only
  rw [if_neg (by simp; omega), if_neg h0]
theorem pathNames_one : pathNames [47] = some [] := by simp [pathNames]
theorem pathNames_refuse {l : Txt} (h : l.length = 0 ∨ 200 < l.length ∨ l[0]? ≠ some 47) : pathNames l = none := by
  unfold pathNames
  cases l with
  | nil => rfl
  | cons c r =>
    simp only
    rw [if_pos]
    rcases h with h | h | h
    · simp at h
    · exact .inr h
    · exact .inl (fun e => h (by rw [e]; rfl))
theorem splitS_mem_length' (r : Txt) : (splitS r).length ≤ r.length + 1 := by
  rw [splitS_length]
  have := List.count_le_length (a := (47 : UInt8)) (l := r)
  omega
/-- An entry by its whole path. -/
theorem entryB_by (x : Ent) : entryB x = (decide (x.path.length ≤ 120 ∧ x.data.length ≤ 2048) && (match pathNames (47 :: x.path) with
    | some l => decide (1 ≤ l.length ∧ l.length ≤ 4)
    | none => false) && (if x.kind = 3 then (pathNames x.data).isSome else decide (x.kind = 1))) := by
  unfold entryB
  by_cases hl : x.path.length ≤ 120 ∧ x.data.length ≤ 2048
  · rw [decide_eq_true hl, Bool.true_and, Bool.true_and]
    congr 1
    by_cases h0 : x.path = []
    · rw [h0, pathNames_one]
      rfl
    · rw [pathNames_slash _ h0 (by omega)]
      by_cases hn : (splitS x.path).all nameB = true
      · by_cases h16 : (splitS x.path).length ≤ 16
        · rw [if_pos ⟨hn, h16⟩, hn, Bool.and_true]
          have := splitS_ne x.path
          have : 1 ≤ (splitS x.path).length := by cases hs : splitS x.path with | nil => exact absurd hs this | cons => simp
          simp only
          rw [Bool.eq_iff_iff, decide_eq_true_iff, decide_eq_true_iff]
          omega
        · rw [if_neg (fun h => h16 h.2), decide_eq_false (by omega)]
          rfl
      · have hn' : (splitS x.path).all nameB = false := by simpa using hn
        rw [if_neg (fun h => hn h.1), hn', Bool.and_false]
  · rw [decide_eq_false hl]
    simp
end Go.Proofs.YtibndaianhlcaaaGreatDoor
namespace Go.Proofs.YtibndaianhlcaaaGreatDoor
open Go.RowKit Go.Sort
set_option linter.unusedVariables false
set_option linter.unusedSimpArgs false

def RefPathPost (w : World) (s : Txt) : Ending → World → Prop := fun e w' => ∃ A n c, e = .returned (.tuple #[.slice A n c, .bool (pathNames s).isSome]) ∧ (∀ l, pathNames s = some l → w'.ownsRow w.heap.size 9 1 (.slice A n c) n (l.map encStr)) ∧ Below w.heap.size w w'
/-- What is known ahead of place q of a text '/' and r. -/
def PathAt (r : Txt) (p q : Nat) (out : List Txt) : Prop := 1 ≤ p ∧ 1 ≤ q ∧ ((q ≤ r.length + 1 ∧ PathInv r (p - 1) (q - 1) out) ∨ (q = r.length + 2 ∧ splitS r = out ∧ out.all nameB = true))
theorem nameAt_cut (r : Txt) (p q : Nat) (hp : 1 ≤ p) (hpq : p ≤ q) : (ByteArray.mk (47 :: r : Txt).toArray).extract p q = ⟨(nameAt r (p - 1) (q - 1)).toArray⟩ := by
  apply Go.WideShapes.bytes_inj
  obtain ⟨f, rfl⟩ : ∃ f, p = f + 1 := ⟨p - 1, by omega⟩
  simp [List.extract_eq_take_drop, nameAt]
  congr 1
  omega
theorem nameAt_length (r : Txt) (f k : Nat) : (nameAt r f k).length ≤ r.length := by
  unfold nameAt
  rw [List.length_take, List.length_drop]
  omega

set_option maxRecDepth 100000 in
set_option maxHeartbeats 2000000 in
theorem refPath_any (s : Txt) (w : World) (hs : s.length ≤ maxLen) :
    Calls Tryz.prog 120 #[.string ⟨s.toArray⟩] w (RefPathPost w s) := by
  have hs' : s.length ≤ 9223372036854775807 := by unfold maxLen at hs; omega
  have tl : (ByteArray.mk s.toArray).toList = s := Go.ByteArray.toList_eq _
  by_cases h1 : s = [47]
  · subst h1
    go_enter Tryz.func120, Tryz.ntmps120
    go_wp2
    go_ret2
    exact ⟨none, 0, 0, rfl, (fun l h => by rw [pathNames_one] at h; injection h with h; subst h; exact World.ownsRow_nil _ _ _ _), Below.refl _ _⟩
  have b1 : (s == [47]) = false := by simpa using h1
  by_cases hbad : s.length = 0 ∨ 200 < s.length ∨ s[0]? ≠ some 47
  · have HN := Lib.hid (pathNames_refuse hbad)
    have hq : s.length = 0 ∨ (¬ s.length = 0 ∧ 200 < s.length) ∨ (¬ s.length = 0 ∧ ¬ 200 < s.length ∧ ∃ h : 0 < s.length, s[0] ≠ 47) := by
      rcases hbad with h | h | h
      · exact .inl h
      · exact .inr (.inl ⟨by omega, h⟩)
      · by_cases h0 : s.length = 0
        · exact .inl h0
        · by_cases h2 : 200 < s.length
          · exact .inr (.inl ⟨h0, h2⟩)
          · refine .inr (.inr ⟨h0, h2, by omega, fun e => h ?_⟩)
            rw [List.getElem?_eq_getElem (by omega), e]
    clear hbad h1
    rcases hq with h0 | ⟨h0, h2⟩ | ⟨h0, h2, hp, h3⟩
    · have k0 : ((s.length : Int) == 0) = true := by rw [beq_iff_eq]; omega
      go_enter Tryz.func120, Tryz.ntmps120
      go_wp2
      go_ret2
      exact ⟨none, 0, 0, by rw [HN.out]; rfl, (fun l h => by rw [HN.out] at h; cases h), Below.refl _ _⟩
    · have k0 : ((s.length : Int) == 0) = false := by rw [beq_eq_false_iff_ne]; omega
      go_enter Tryz.func120, Tryz.ntmps120
      go_wp2
      go_ret2
      exact ⟨none, 0, 0, by rw [HN.out]; rfl, (fun l h => by rw [HN.out] at h; cases h), Below.refl _ _⟩
    · have k0 : ((s.length : Int) == 0) = false := by rw [beq_eq_false_iff_ne]; omega
      have hx : 0 < (ByteArray.mk s.toArray).size := hp
      have hc : (((ByteArray.mk s.toArray)[0].toNat : Int) != 47) = true := by
        show ((s[0].toNat : Int) != 47) = true
        have : s[0].toNat ≠ 47 := fun h => h3 (UInt8.toNat_inj.1 (by rw [h]; rfl))
        simp; omega
      clear h3
      go_enter Tryz.func120, Tryz.ntmps120
      go_wp2
      go_ret2
      exact ⟨none, 0, 0, by rw [HN.out]; rfl, (fun l h => by rw [HN.out] at h; cases h), Below.refl _ _⟩
  obtain ⟨r, hsr⟩ : ∃ r, s = 47 :: r := by
    cases s with
    | nil => exact absurd (.inl rfl) hbad
    | cons c r =>
      refine ⟨r, ?_⟩
      by_cases hc : c = 47
      · rw [hc]
      · exact absurd (.inr (.inr (fun e => hc (by simpa using e)))) hbad
  have hlen : s.length = r.length + 1 := by rw [hsr]; rfl
  have hr0 : r ≠ [] := fun e => h1 (by rw [hsr, e])
  have hL : s.length ≤ 200 := by
    rcases Nat.lt_or_ge 200 s.length with h | h
    · exact absurd (.inr (.inl h)) hbad
    · exact h
  have HPN := Lib.hid (show pathNames s = if (splitS r).all nameB = true ∧ (splitS r).length ≤ 16 then some (splitS r) else none by rw [hsr]; exact pathNames_slash r hr0 (by omega))
  have hx : 0 < (ByteArray.mk s.toArray).size := show 0 < s.length by omega
  have hc : (((ByteArray.mk s.toArray)[0].toNat : Int) != 47) = false := by
    subst hsr
    show (((47 : UInt8).toNat : Int) != 47) = false
    rfl
  have k0 : ((s.length : Int) == 0) = false := by rw [beq_eq_false_iff_ne]; omega
  have HCUT := Lib.hid (show ∀ p q, 1 ≤ p → p ≤ q → (ByteArray.mk s.toArray).extract p q = ⟨(nameAt r (p - 1) (q - 1)).toArray⟩ by rw [hsr]; exact fun p q h1 h2 => nameAt_cut r p q h1 h2)
  have HGET := Lib.hid (show ∀ q (h : q < s.length) (h' : q - 1 < r.length), 1 ≤ q → s[q] = r[q - 1] by
    subst hsr
    intro q h h' hq
    obtain ⟨k, rfl⟩ : ∃ k, q = k + 1 := ⟨q - 1, by omega⟩
    rfl)
  have HPI := Lib.hid (PathInv.zero r)
  have HLEN := Lib.hid hlen
  clear hbad h1 hs hr0 hlen hsr
  go_enter Tryz.func120, Tryz.ntmps120
  go_wp2_with (fail)
  go_loopw [4, 5, 6] (fun o f i wr => ∃ (p q : Nat) (out : List Txt) (A : Option Addr) (n c : Nat), q ≤ s.length + 1 ∧ p ≤ q ∧ 1 ≤ p ∧ i = .int .i64 (q : Int) ∧ f = .int .i64 (p : Int) ∧ o = .slice A n c ∧ Aside (PathAt r p q out) ∧ Aside (wr.ownsRow w.heap.size 9 1 (.slice A n c) n (out.map encStr)) ∧ Aside (Below w.heap.size w wr)) (fun _ _ i _ => s.length + 1 - (intOf i).toNat)
  case atStart => exact ⟨1, 1, [], none, 0, 0, by omega, Nat.le_refl _, Nat.le_refl _, rfl, rfl, rfl, ⟨Nat.le_refl _, Nat.le_refl _, .inl ⟨by have := HLEN.out; omega, HPI.out⟩⟩, World.ownsRow_nil _ _ _ _, Below.refl _ _⟩
  case round =>
    obtain ⟨p, q, out, A, n, c, hq, hpq, hp1, rfl, rfl, rfl, hat, hown, hb⟩ := hrel
    by_cases hlt : q ≤ s.length
    · have HI := Lib.hid (show PathInv r (p - 1) (q - 1) out by
        rcases hat.out.2.2 with h | h
        · exact h.2
        · have := HLEN.out; omega)
      clear hat
      have hex := HCUT.out p q hp1 hpq
      have hnl := nameAt_length r (p - 1) (q - 1)
      have hrl := HLEN.out
      have HNL := Lib.hid (show (nameAt r (p - 1) (q - 1)).length ≤ 200 by omega)
      have hnm := refName_any ⟨(nameAt r (p - 1) (q - 1)).toArray⟩ wr (by show (nameAt r (p - 1) (q - 1)).length ≤ maxLen; unfold maxLen; omega)
      have hnd : (ByteArray.mk (nameAt r (p - 1) (q - 1)).toArray).data.toList = nameAt r (p - 1) (q - 1) := rfl
      rw [hnd] at hnm
      clear hnl hnd hrl
      -- what a name that ends here makes
      have hcont : q < s.length ∧ (∃ h : q < s.length, s[q] ≠ 47) ∨ (q = s.length ∨ ∃ h : q < s.length, s[q] = 47) := by
        by_cases h : q < s.length
        · by_cases h' : s[q] = 47
          · exact .inr (.inr ⟨h, h'⟩)
          · exact .inl ⟨h, h, h'⟩
        · exact .inr (.inl (by omega))
      rcases hcont with ⟨hqs, _, hne⟩ | hend
      · have HNX := Lib.hid (show PathAt r p (q + 1) out from ⟨hp1, by omega, .inl ⟨by have := HLEN.out; omega, by
          have h := HI.out.other (by have := HLEN.out; omega) (by rw [← HGET.out q hqs (by have := HLEN.out; omega) (by omega)]; exact hne)
          rwa [show q - 1 + 1 = q + 1 - 1 by omega] at h⟩⟩)
        have hx2 : q < (ByteArray.mk s.toArray).size := hqs
        have hc2 : (((ByteArray.mk s.toArray)[q].toNat : Int) != 47) = true := by
          show ((s[q].toNat : Int) != 47) = true
          have : s[q].toNat ≠ 47 := fun h => hne (UInt8.toNat_inj.1 (by rw [h]; rfl))
          simp; omega
        clear hne hnm hex
        go_wp2_with (fail)
        exact ⟨⟨p, q + 1, out, A, n, c, by omega, by omega, hp1, by go_num, rfl, rfl, HNX.out, hown.out, hb.out⟩, by simp [intOf]; omega⟩
      · have HBAD := Lib.hid (fun (hn : nameB (nameAt r (p - 1) (q - 1)) = false) => HI.out.bad (by
          rcases hend with h | ⟨h, h'⟩
          · exact .inl (by have := HLEN.out; omega)
          · exact .inr ⟨by have := HLEN.out; omega, by rw [← HGET.out q h (by have := HLEN.out; omega) (by omega)]; exact h'⟩) hn)
        have HGOOD := Lib.hid (fun (hn : nameB (nameAt r (p - 1) (q - 1)) = true) => show PathAt r (q + 1) (q + 1) (out ++ [nameAt r (p - 1) (q - 1)]) from ⟨by omega, by omega, by
          rcases hend with h | ⟨h, h'⟩
          · refine .inr ⟨by have := HLEN.out; omega, HI.out.endEq (by have := HLEN.out; omega), ?_⟩
            rw [List.all_append, HI.out.names]
            simp [hn]
          · refine .inl ⟨by have := HLEN.out; omega, ?_⟩
            have h3 := HI.out.cut (by have := HLEN.out; omega) (by rw [← HGET.out q h (by have := HLEN.out; omega) (by omega)]; exact h') hn
            rwa [show q - 1 + 1 = q + 1 - 1 by omega] at h3⟩)
        have hlo : out.length ≤ 300 := by
          have h1 := splitS_mem_length' r
          have h3 := HLEN.out
          have h2 : out.length ≤ (splitS r).length := by rw [HI.out.split, List.length_append]; omega
          omega
        have hnl : n = out.length := by have := hown.out.1; rw [List.length_map] at this; omega
        have PREP : ∀ w2, Below wr.heap.size wr w2 → ∃ A4 c4 w4, (Builtin.append_ #[23, 23] 23 #[.slice A n c, .slice (some ⟨w2.heap.size, 0, none⟩) 1 1]).run Tryz.prog (w2.alloc (.cells #[.string ⟨(nameAt r (p - 1) (q - 1)).toArray⟩] 9)) = .ok (.slice A4 (n + 1) c4) w4 ∧
            w4.ownsRow w.heap.size 9 1 (.slice A4 (n + 1) c4) (n + 1) ((out ++ [nameAt r (p - 1) (q - 1)]).map encStr) ∧ Below w.heap.size w w4 := by
          intro w2 hb3
          have hsz := Nat.le_trans hb.out.size hb3.size
          obtain ⟨A4, c4, w4, h1, h2, h3, h4⟩ := append_str w2 w.heap.size _ n _ (own_below hown.out hb3) (nameAt r (p - 1) (q - 1)) (by omega) hsz
          refine ⟨A4, c4, w4, h1, h2, ?_⟩
          refine ((hb.out.trans (hb3.mono hb.out.size)).alloc hsz _).grown h3 (by simp; omega) (fun q hq => ?_)
          exact (hown.out.lt q hq).1
        have PREP := Lib.hid PREP
        clear hlo hnl
        generalize nameAt r (p - 1) (q - 1) = x at *
        have hcase : (s.length ≤ q ∧ ¬ q < s.length) ∨ ∃ hx2 : q < (ByteArray.mk s.toArray).size, q < s.length ∧ (((ByteArray.mk s.toArray)[q].toNat : Int) != 47) = false := by
          rcases hend with h | ⟨h, h'⟩
          · exact .inl ⟨by omega, by omega⟩
          · refine .inr ⟨h, h, ?_⟩
            show ((s[q].toNat : Int) != 47) = false
            rw [h']
            rfl
        clear hend
        cases hnx : nameB x with
        | false =>
          have HX := Lib.hid (show pathNames s = none by rw [HPN.out, if_neg]; rintro ⟨h, _⟩; rw [HBAD.out hnx] at h; cases h)
          rw [hnx] at hnm
          clear hnx
          rcases hcase with ⟨hq1, hq2⟩ | ⟨hx2, hq2, hc2⟩
          all_goals
            go_wp2_with (go_at_call 45; refine hnm.mono ?_; clear hnm; rintro e2 w2 ⟨rfl, hb2⟩)
            go_ret2
            exact ⟨none, 0, 0, by rw [HX.out]; rfl, (fun l h => by rw [HX.out] at h; cases h), hb.out.trans (hb2.mono hb.out.size)⟩
        | true =>
          have HX := Lib.hid (HGOOD.out hnx)
          rw [hnx] at hnm
          clear hnx
          rcases hcase with ⟨hq1, hq2⟩ | ⟨hx2, hq2, hc2⟩
          all_goals
            go_wp2_with (first
              | (go_at_call 45; refine hnm.mono ?_; clear hnm; rintro e2 w2 ⟨rfl, hb2⟩; obtain ⟨A4, c4, w4, hrun, hown4, hb4⟩ := PREP.out w2 hb2)
              | (at_builtin; refine wpList_append_run rfl _ _ _ rfl rfl rfl hrun ?_; clear hrun))
            exact ⟨⟨q + 1, q + 1, out ++ [x], A4, n + 1, c4, by omega, by omega, by omega, by go_num, by go_num, rfl, HX.out, hown4, hb4⟩, by simp [intOf]; omega⟩
    · have hout : splitS r = out ∧ out.all nameB = true := by
        rcases hat.out.2.2 with h | h
        · have := HLEN.out; omega
        · exact h.2
      have hl2 : n = out.length := by have := hown.out.1; rw [List.length_map] at this; omega
      have HB := Lib.hid hb.out
      by_cases h16 : n ≤ 16
      · have HX := Lib.hid (show pathNames s = some out by rw [HPN.out, hout.1, if_pos ⟨hout.2, by omega⟩])
        have HO := Lib.hid hown.out
        have k16 : decide ((n : Int) ≤ 16) = true := decide_eq_true (by omega)
        clear hout hl2
        go_wp2_with (fail)
        go_ret2
        exact ⟨A, n, c, by rw [HX.out]; rfl, (fun l h => by rw [HX.out] at h; injection h with h; subst h; exact HO.out), HB.out⟩
      · have HX := Lib.hid (show pathNames s = none by rw [HPN.out, hout.1, if_neg]; rintro ⟨_, h⟩; omega)
        have k16 : decide ((n : Int) ≤ 16) = false := decide_eq_false (by omega)
        clear hout hl2
        go_wp2_with (fail)
        go_ret2
        exact ⟨A, n, c, by rw [HX.out]; rfl, (fun l h => by rw [HX.out] at h; cases h), HB.out⟩
end Go.Proofs.YtibndaianhlcaaaGreatDoor
namespace Go.Proofs.YtibndaianhlcaaaGreatDoor
open Go.RowKit Go.Sort
set_option linter.unusedVariables false
set_option linter.unusedSimpArgs false

theorem slash_cat (t : Txt) : ((⟨#[47]⟩ : ByteArray) ++ ⟨t.toArray⟩) = ⟨(47 :: t).toArray⟩ := by
  apply Go.WideShapes.bytes_inj
  simp
theorem oneB_long {x : Ent} (h : 120 < x.path.length ∨ 2048 < x.data.length) : entryB x = false := by
  unfold entryB
  rw [decide_eq_false (by omega)]
  rfl
theorem oneB_none {x : Ent} (h : pathNames (47 :: x.path) = none) : entryB x = false := by
  rw [entryB_by, h]
  simp
theorem oneB_few {x : Ent} {l : List Txt} (h : pathNames (47 :: x.path) = some l) (hl : l.length < 1 ∨ 4 < l.length) : entryB x = false := by
  rw [entryB_by, h]
  simp only
  rw [decide_eq_false (p := 1 ≤ l.length ∧ l.length ≤ 4) (by omega)]
  simp
theorem oneB_end {x : Ent} {l : List Txt} (h1 : x.path.length ≤ 120) (h2 : x.data.length ≤ 2048) (h : pathNames (47 :: x.path) = some l) (hl1 : 1 ≤ l.length) (hl2 : l.length ≤ 4) : entryB x = if x.kind = 3 then (pathNames x.data).isSome else decide (x.kind = 1) := by
  rw [entryB_by, h, decide_eq_true (show x.path.length ≤ 120 ∧ x.data.length ≤ 2048 from ⟨h1, h2⟩)]
  simp only
  rw [decide_eq_true (show 1 ≤ l.length ∧ l.length ≤ 4 from ⟨hl1, hl2⟩)]
  simp

set_option maxRecDepth 100000 in
set_option maxHeartbeats 2000000 in
theorem refOne_any {w : World} {B : Nat} (e : EV) (hd : Slc w B 1 e.A e.n e.c (e.data.map bv)) (hB : B ≤ w.heap.size) (hp : e.path.length ≤ 1000000000) :
    Calls Tryz.prog 91 #[.agg (evArr e)] w fun v w' => v = .returned (.bool (entryB e.ent)) ∧ Below w.heap.size w w' := by
  obtain ⟨path, kind, data, A, n, c⟩ := e
  simp only at hd hp
  have hdl : data.length = n := by have := hd.len; simpa using this
  have hnm : n ≤ 9223372036854775807 := by have h1 := hd.le; have h2 := hd.cmax; unfold maxLen at h2; omega
  unfold evArr
  simp only [EV.ent]
  obtain ⟨W1, hW1⟩ : ∃ W1, W1 = w.alloc (.cells #[.string ⟨path.toArray⟩, .int .i64 kind, .slice A n c] 35) := ⟨_, rfl⟩
  have hb1 : Below w.heap.size w W1 := by rw [hW1]; exact (Below.refl _ w).alloc (Nat.le_refl _) _
  have hG : Blk W1 w.heap.size 35 #[.string ⟨path.toArray⟩, .int .i64 kind, .slice A n c] := by rw [hW1]; exact Blk.new _ _ _
  by_cases hlong : 120 < path.length ∨ 2048 < data.length
  · have HX := Lib.hid (oneB_long (x := ⟨path, kind, data⟩) hlong)
    have hq : 120 < path.length ∨ (¬ 120 < path.length ∧ 2048 < n) := by omega
    have HB1 := Lib.hid (hW1 ▸ hb1)
    clear hlong hdl hd hG hb1 hW1
    rcases hq with h0 | ⟨h0, h1⟩
    all_goals
      go_enter Tryz.func91, Tryz.ntmps91
      go_wp2_with (fail)
      go_ret
      exact ⟨by rw [HX.out]; rfl, HB1.out⟩
  have hl1 : ¬ 120 < path.length := by omega
  have hl2 : ¬ 2048 < n := by omega
  have hcat : ¬ 9223372036854775807 < 1 + path.length := by omega
  have hpa := fun W => refPath_any (47 :: path) W (by rw [List.length_cons]; unfold maxLen; omega)
  have HD := Lib.hid hd
  have HG := Lib.hid hG
  have HB1 := Lib.hid hb1
  have HDL := Lib.hid hdl
  have hpd := fun W => refPath_any data W (by unfold maxLen; omega)
  have hpathl : path.length ≤ 120 := by omega
  have hdatal : data.length ≤ 2048 := by omega
  cases hpn : pathNames (47 :: path) with
  | none =>
    have HX := Lib.hid (oneB_none (x := ⟨path, kind, data⟩) hpn)
    have HPN := Lib.hid hpn
    rw [← slash_cat] at hpa
    clear hlong hdl hd hG hb1 hpn hpd
    go_enter Tryz.func91, Tryz.ntmps91
    go_wp2_with (go_at_call 120; rw [← hW1]; refine (hpa _).mono ?_; clear hpa; rintro e2 w2 ⟨A2, n2, c2, rfl, ho2, hb2⟩; rw [HPN.out])
    go_ret
    exact ⟨by rw [HX.out]; rfl, HB1.out.trans (hb2.mono HB1.out.size)⟩
  | some l =>
    have HPN := Lib.hid hpn
    rw [← slash_cat] at hpa
    by_cases hfew : l.length < 1 ∨ 4 < l.length
    · have HX := Lib.hid (oneB_few (x := ⟨path, kind, data⟩) hpn hfew)
      have hq : l.length < 1 ∨ (¬ l.length < 1 ∧ 4 < l.length) := by omega
      clear hlong hdl hd hG hb1 hpn hpd hfew
      rcases hq with h0 | ⟨h0, h1⟩
      all_goals
        go_enter Tryz.func91, Tryz.ntmps91
        go_wp2_with (go_at_call 120; rw [← hW1]; refine (hpa _).mono ?_; clear hpa; rintro e2 w2 ⟨A2, n2, c2, rfl, ho2, hb2⟩; rw [HPN.out]; have hn2 : n2 = l.length := (by have h := (ho2 l HPN.out).1; rw [List.length_map] at h; omega); subst hn2)
        go_ret
        exact ⟨by rw [HX.out]; rfl, HB1.out.trans (hb2.mono HB1.out.size)⟩
    · have hf1 : ¬ l.length < 1 := by omega
      have hf2 : ¬ 4 < l.length := by omega
      have HEND := Lib.hid (oneB_end (x := ⟨path, kind, data⟩) hpathl hdatal hpn (by omega) (by omega))
      clear hlong hdl hd hG hb1 hpn hfew
      by_cases h3 : kind = 3
      · have HX := Lib.hid (HEND.out.trans (if_pos h3))
        have hk3 : (kind == 3) = true := by simpa using h3
        clear h3 HEND
        go_enter Tryz.func91, Tryz.ntmps91
        go_wp2_with (first
          | (go_at_call 120; rw [← hW1]; refine (hpa _).mono ?_; clear hpa; rintro e2 w2 ⟨A2, n2, c2, rfl, ho2, hb2⟩; rw [HPN.out]; have hn2 : n2 = l.length := (by have h := (ho2 l HPN.out).1; rw [List.length_map] at h; omega); subst hn2; have g1 := (HG.out.below hb2 HG.out.lt).cell 1; have g2 := (HG.out.below hb2 HG.out.lt).cell 2; simp only [List.getElem?_toArray, List.getElem?_cons_zero, List.getElem?_cons_succ] at g1 g2; have hcv := convert_bytes (P := Tryz.prog) Tryz.underlying33 Tryz.underlying5 (HD.out.below ((HB1.out.trans (hb2.mono HB1.out.size)).mono hB)) 9 Tryz.underlying9)
          | (go_at_call 120; refine (hpd _).mono ?_; clear hpd; rintro e3 w3 ⟨A3, n3, c3, rfl, ho3, hb3⟩))
        go_ret
        have hb12 := HB1.out.trans (hb2.mono HB1.out.size)
        exact ⟨by rw [HX.out]; rfl, hb12.trans (hb3.mono hb12.size)⟩
      · have HX := Lib.hid (HEND.out.trans (if_neg h3))
        have hk3 : (kind == 3) = false := by simpa using h3
        have hkd : (kind == 1) = decide (kind = 1) := by rw [Bool.eq_iff_iff]; simp
        have HKD := Lib.hid hkd
        clear h3 HEND hpd hkd
        go_enter Tryz.func91, Tryz.ntmps91
        go_wp2_with (go_at_call 120; rw [← hW1]; refine (hpa _).mono ?_; clear hpa; rintro e2 w2 ⟨A2, n2, c2, rfl, ho2, hb2⟩; rw [HPN.out]; have hn2 : n2 = l.length := (by have h := (ho2 l HPN.out).1; rw [List.length_map] at h; omega); subst hn2; have g1 := (HG.out.below hb2 HG.out.lt).cell 1; have g2 := (HG.out.below hb2 HG.out.lt).cell 2; simp only [List.getElem?_toArray, List.getElem?_cons_zero, List.getElem?_cons_succ] at g1 g2)
        go_ret
        exact ⟨by rw [HX.out, ← HKD.out]; rfl, HB1.out.trans (hb2.mono HB1.out.size)⟩
end Go.Proofs.YtibndaianhlcaaaGreatDoor
namespace Go.Proofs.YtibndaianhlcaaaGreatDoor
open Go.RowKit Go.Sort
set_option linter.unusedVariables false
set_option linter.unusedSimpArgs false

theorem aheadB_ge {a b : Txt} (h : ¬ a < b) : aheadB a b = false := by unfold aheadB; rw [decide_eq_false h]; rfl
theorem prefix_cut (a b : Txt) : (a ++ [47]).isPrefixOf b = true ↔ b.take (a.length + 1) = a ++ [47] := by
  rw [List.isPrefixOf_iff_prefix, List.prefix_iff_eq_take, List.length_append]
  exact ⟨fun h => h.symm, fun h => h.symm⟩
theorem aheadB_cut {a b : Txt} (h : b.take (a.length + 1) = a ++ [47]) : aheadB a b = false := by unfold aheadB; rw [(prefix_cut a b).2 h]; simp
theorem aheadB_ok {a b : Txt} (h : a < b) (h2 : b.take (a.length + 1) ≠ a ++ [47]) : aheadB a b = true := by
  unfold aheadB
  rw [decide_eq_true h]
  cases hp : (a ++ [47]).isPrefixOf b with
  | true => exact absurd ((prefix_cut a b).1 hp) h2
  | false => rfl
def aheadTo (l : List Ent) (x : Ent) (j : Nat) : Bool := (l.take j).all fun y => aheadB y.path x.path
theorem aheadTo_succ (l : List Ent) (x : Ent) (j : Nat) (h : j < l.length) : aheadTo l x (j + 1) = (aheadTo l x j && aheadB l[j].path x.path) := by
  unfold aheadTo
  rw [List.take_succ_eq_append_getElem h, List.all_append]
  simp
theorem fits_to (l : List Ent) (i : Nat) (x : Ent) : fitsB l i x = (entryB x && aheadTo l x i) := rfl

set_option maxRecDepth 100000 in
set_option maxHeartbeats 2000000 in
theorem refRight08_any {w : World} {B : Nat} {A : Option Addr} {n c : Nat} {es : List EV} (h : EntsAt w B A n c es) (hB : B ≤ w.heap.size) (hp : ∀ e ∈ es, e.path.length ≤ 1000000000) :
    Calls Tryz.prog 44 #[.slice A n c] w fun e w' => e = .returned (.bool (rightB (es.map EV.ent))) ∧ Below w.heap.size w w' := by
  obtain ⟨l, hl⟩ : ∃ l, l = es.map EV.ent := ⟨_, rfl⟩
  have hll : l.length = n := by rw [hl, List.length_map, h.len]
  rw [← hl]
  have hnc := h.slc.le
  have hcm := h.slc.cmax
  have hn62 : n ≤ 9223372036854775807 := by unfold maxLen at hcm; omega
  by_cases h24 : 24 < n
  · have HG := Lib.hid (show rightB l = false by unfold rightB; rw [decide_eq_false (by omega)]; rfl)
    clear h hl hp hll
    go_enter Tryz.func44, Tryz.ntmps44
    go_wp2
    go_ret
    exact ⟨by rw [HG.out]; rfl, Below.refl _ _⟩
  have hn24 : n ≤ 24 := by omega
  have HG := Lib.hid (show rightB l = rightTo l l.length by unfold rightB; rw [decide_eq_true (by omega)]; rfl)
  have HBAD := Lib.hid (fun (k : Nat) (hk : k < l.length) (h : fitsB l k l[k] = false) => rightB_false (l := l) hk (fun _ => h))
  have H := Lib.hid h
  have HP := Lib.hid hp
  have HL := Lib.hid hl
  have HLL := Lib.hid hll
  clear h hp hl hll
  go_enter Tryz.func44, Tryz.ntmps44
  go_wp2_with (fail)
  go_loopw [3] (fun i wr => ∃ (k : Nat), k ≤ n ∧ i = .int .i64 (k : Int) ∧ Aside (rightTo l k = true) ∧ Aside (Below w.heap.size w wr)) (fun i _ => n - (intOf i).toNat)
  case atStart => exact ⟨0, Nat.zero_le _, rfl, rightTo_zero l, Below.refl _ _⟩
  case round =>
    obtain ⟨k, hk, rfl, hr, hb⟩ := hrel
    by_cases hlt : k < n
    · obtain ⟨b, off, rfl, hbB, hkl, c0, c1, c2, hS⟩ := (H.out.below (hb.out.mono hB)).at_ hlt
      have hkl' : k < l.length := by rw [HLL.out]; exact hlt
      have HLK := Lib.hid (show l[k] = es[k].ent by have := HL.out; subst this; exact ents_get hkl hkl')
      have hpl := HP.out _ (List.getElem_mem hkl)
      have HBK := Lib.hid (HBAD.out k hkl')
      rw [HLK.out] at HBK
      have HNX := Lib.hid (rightTo_succ l k hkl')
      rw [HLK.out] at HNX
      generalize es[k] = e at *
      have hone := refOne_any (w := wr) e hS (Nat.le_trans hB hb.out.size) hpl
      unfold evArr at hone
      have hbl : b < wr.heap.size := Nat.lt_of_lt_of_le hbB (Nat.le_trans hB hb.out.size)
      have HBB := Lib.hid hb.out
      clear hS hb
      cases hev : entryB e.ent with
      | false =>
        have HX := Lib.hid (HBK.out (by rw [fits_to, hev]; rfl))
        rw [hev] at hone
        clear hev
        go_wp2_with (go_at_call 91; refine hone.mono ?_; clear hone; rintro e2 w2 ⟨rfl, hb2⟩)
        go_ret
        exact ⟨by rw [HX.out]; rfl, HBB.out.trans (hb2.mono HBB.out.size)⟩
      | true =>
        rw [hev] at hone
        have HNO := Lib.hid (fun (j : Nat) (hjk : j < k) (hj : j < l.length) (ha : aheadB l[j].path e.ent.path = false) => HBK.out (fits_at (l := l) (k := j) hjk hj ha))
        have HOK := Lib.hid (fun (ha : aheadTo l e.ent k = true) => show rightTo l (k + 1) = true by rw [HNX.out, hr.out, fits_to, hev, ha]; rfl)
        clear hev
        go_wp2_with (go_at_call 91; refine hone.mono ?_; clear hone; rintro e2 w2 ⟨rfl, hb2⟩; have f0 := (hb2.cell (p := ⟨b, off + k * 3, none⟩) hbl).trans c0)
        have HB2 := Lib.hid (HBB.out.trans (hb2.mono HBB.out.size))
        clear hb2
        go_loop [5] (fun i => ∃ (j : Nat), j ≤ k ∧ i = .int .i64 (j : Int) ∧ Aside (aheadTo l e.ent j = true)) (fun i => k - (intOf i).toNat)
        case atStart => exact ⟨0, Nat.zero_le _, rfl, rfl⟩
        case round =>
          obtain ⟨j, hj, rfl, hah⟩ := hrel
          by_cases hjk : j < k
          · obtain ⟨bj, offj, hA, _, hjl, g0, _, _, _⟩ := (H.out.below (HB2.out.mono hB)).at_ (k := j) (by omega)
            injection hA with hA
            injection hA with e1 e2
            subst e1 e2
            have hjl' : j < l.length := by rw [HLL.out]; omega
            have hyl := HP.out _ (List.getElem_mem hjl)
            have HLJ := Lib.hid (show l[j] = es[j].ent by have := HL.out; subst this; exact ents_get hjl hjl')
            have HNJ := Lib.hid (HNO.out j hjk hjl')
            have HSJ := Lib.hid (aheadTo_succ l e.ent j hjl')
            rw [HLJ.out] at HNJ HSJ
            generalize es[j] = y at *
            have hjn : j < n := by omega
            have hcmp := less_str y.path e.path
            have hcmp2 := bytesLess_txt y.path e.path
            have hn1 : ¬ 9223372036854775807 < y.path.length + 1 := by omega
            have hyl2 : y.path.length + 1 ≤ 9223372036854775807 := by omega
            have hpl2 : e.path.length ≤ 9223372036854775807 := by omega
            have hex := ext_list e.path 0 (y.path.length + 1)
            rw [List.drop_zero, Nat.sub_zero] at hex
            have htl : ((⟨y.path.toArray⟩ : ByteArray) ++ ⟨#[47]⟩).toList = y.path ++ [47] := by rw [Go.ByteArray.toList_eq]; simp
            by_cases hlp : y.path < e.path
            case neg =>
              have HX := Lib.hid (HNJ.out (aheadB_ge hlp))
              rw [decide_eq_false hlp] at hcmp hcmp2
              clear hlp hex
              go_wp2_with (fail)
              go_ret
              exact ⟨by rw [HX.out]; rfl, HB2.out⟩
            rw [decide_eq_true hlp] at hcmp hcmp2
            by_cases hlen : y.path.length < e.path.length
            · by_cases hcut : e.path.take (y.path.length + 1) = y.path ++ [47]
              · have HX := Lib.hid (HNJ.out (aheadB_cut hcut))
                rw [hcut] at hex
                clear hlp hcut
                go_wp2_with (fail)
                go_ret
                exact ⟨by rw [HX.out]; rfl, HB2.out⟩
              · have HX := Lib.hid (show aheadTo l e.ent (j + 1) = true by rw [HSJ.out, hah.out]; exact aheadB_ok hlp hcut)
                have hcb : (e.path.take (y.path.length + 1) == y.path ++ [47]) = false := by simpa using hcut
                clear hlp hcut
                go_wp2_with (fail)
                exact ⟨⟨j + 1, by omega, by go_num, HX.out⟩, by simp [intOf]; omega⟩
            · have hcut : e.path.take (y.path.length + 1) ≠ y.path ++ [47] := fun h => by
                have := congrArg List.length h
                simp only [List.length_take, List.length_append, List.length_cons, List.length_nil] at this
                omega
              have HX := Lib.hid (show aheadTo l e.ent (j + 1) = true by rw [HSJ.out, hah.out]; exact aheadB_ok hlp hcut)
              clear hlp hcut hex
              go_wp2_with (fail)
              exact ⟨⟨j + 1, by omega, by go_num, HX.out⟩, by simp [intOf]; omega⟩
          · obtain rfl : j = k := by omega
            have HX := Lib.hid (HOK.out hah.out)
            go_wp2_with (fail)
            exact ⟨⟨j + 1, by omega, by go_num, HX.out, HB2.out⟩, by simp [intOf]; omega⟩
    · obtain rfl : k = n := by omega
      have HR := Lib.hid (show rightB l = true by rw [HG.out, HLL.out]; exact hr.out)
      go_wp2
      go_ret
      exact ⟨by rw [HR.out]; rfl, hb.out⟩
end Go.Proofs.YtibndaianhlcaaaGreatDoor
