/- slices.DeleteFunc at texts. slices.DeleteFunc at entries. A machine's files turn. machine.file: two paths compared. slices.BinarySearchFunc over a machine's files. slices.Insert of a struct: what lies in the row behind it. slices.Insert of an entry behind the others. copy of structs, whole. -/
import Derived.Test.YtibndaianhlcaaaDoorPart12
import Derived.Test.YtibndaianhlcaaaDoorPart8
import Derived.Laws.IdiomCopy
namespace Go.Proofs.YtibndaianhlcaaaDoor
open Go.RowKit Go.Sort Go.Shelf
set_option linter.unusedVariables false
set_option linter.unusedSimpArgs false

def txtC (t : Txt) : List Value := [encStr t]
theorem txtC_map (l : List Txt) : l.map encStr = l.flatMap txtC := by
  induction l with
  | nil => rfl
  | cons a l ih => rw [List.map_cons, List.flatMap_cons, ih]; rfl
theorem first_of {L : List Txt} {name : Txt} (h : ¬ ∀ i (hi : i < L.length), L[i] ≠ name) : ∃ k, ∃ hk : k < L.length, L[k] = name ∧ ∀ i (hi : i < L.length), i < k → L[i] ≠ name := by
  induction L with
  | nil => exact absurd (fun i hi => by simp at hi) h
  | cons a L ih =>
    by_cases ha : a = name
    · exact ⟨0, by simp, ha, fun i _ h => absurd h (Nat.not_lt_zero _)⟩
    · obtain ⟨k, hk, h1, h2⟩ := ih (fun h' => h (fun i hi => by
        cases i with
        | zero => exact ha
        | succ i => exact h' i (by simpa using hi)))
      refine ⟨k + 1, by simpa using hk, h1, fun i hi hik => ?_⟩
      cases i with
      | zero => exact ha
      | succ i => exact h2 i (by simpa using hi) (by omega)
def keepT (name : Txt) (x : Txt) : Bool := decide (x ≠ name)
def DelPostS (w : World) (F : Nat → Prop) (A : Option Addr) (n c : Nat) (l : List Txt) (name : Txt) : Ending → World → Prop := fun e w' => ∃ m, e = .returned (.slice A m c) ∧ Row w' F 9 1 (.slice A m c) m ((l.filter (keepT name)).map encStr) ∧ w.grownBy w' (Value.slice A n c).ownBlock
set_option maxRecDepth 100000 in
set_option maxHeartbeats 2000000 in
theorem delS_any {w : World} {F : Nat → Prop} {A : Option Addr} {n c : Nat} {l : List Txt} (h : Row w F 9 1 (.slice A n c) n (l.map encStr)) (hn : n ≤ 1000000) (name : Txt) (ba : Nat) {cs : Array Value} (hba : Blk w ba 48 cs) (hcs : cs[1]? = some (.string ⟨name.toArray⟩)) :
    Calls Tryd.prog 22 #[.slice A n c, .func (.func 23) #[] #[.pointer (some ⟨ba, 0, none⟩)]] w (DelPostS w F A n c l name) := by
  have hbn : w.cell? ⟨ba, 1, none⟩ = some (.string ⟨name.toArray⟩) := by rw [hba.cell]; exact hcs
  have hl : l.length = n := by have := h.own.1; simpa using this
  have hidx := idxS_any (h.slc') (Nat.le_refl _) (by omega) name ba hbn
  by_cases hno : ∀ i (hi : i < l.length), l[i] ≠ name
  · have hidx' : Calls Tryd.prog 39 #[.slice A n c, .func (.func 23) #[] #[.pointer (some ⟨ba, 0, none⟩)]] w fun e w' => e = .returned (.int .i64 (-1)) ∧ Below w.heap.size w w' := hidx.mono (by
      rintro e w' ⟨r, rfl, hf, hb⟩
      rcases hf with ⟨rfl, _⟩ | ⟨k, hk, _, h2, _⟩
      · exact ⟨rfl, hb⟩
      · exact absurd h2 (hno k hk))
    have HF := Lib.hid (show l.filter (keepT name) = l from List.filter_eq_self.2 fun x hx => by
      obtain ⟨i, hi, rfl⟩ := List.mem_iff_getElem.1 hx
      exact decide_eq_true (hno i hi))
    have H := Lib.hid h
    clear hidx hno h hba hcs hbn hl
    go_enter Tryd.func22, Tryd.ntmps22
    go_wp2_with (go_at_call 39; refine hidx'.mono ?_; clear hidx'; rintro e w1 ⟨rfl, hb1⟩)
    go_ret
    exact ⟨n, rfl, by rw [HF.out]; exact H.out.belo hb1, ⟨hb1.os, hb1.tape, hb1.output, hb1.size, fun k hk _ => hb1.block k hk⟩⟩
  · obtain ⟨k, hk, hk1, hk2⟩ := first_of hno
    have hidx' : Calls Tryd.prog 39 #[.slice A n c, .func (.func 23) #[] #[.pointer (some ⟨ba, 0, none⟩)]] w fun e w' => e = .returned (.int .i64 (k : Int)) ∧ Below w.heap.size w w' := hidx.mono (by
      rintro e w' ⟨r, rfl, hf, hb⟩
      rcases hf with ⟨_, h2⟩ | ⟨k', hk', rfl, h2, h3⟩
      · exact absurd hk1 (h2 k hk)
      · rcases Nat.lt_trichotomy k k' with h4 | h4 | h4
        · exact absurd hk1 (h3 k hk h4)
        · subst h4; exact ⟨rfl, hb⟩
        · exact absurd h2 (hk2 k' hk' h4))
    rcases h.own.2 with ⟨e, h0⟩ | ⟨g, cap, cur, e, hb0, hb, hb1, hb2, hb3, hb4⟩
    · omega
    injection e with e1 _ e3
    subst e1 e3
    have hB : Blk w g 9 cur := hb
    have hFg : F g := h.foot g rfl
    have hbg : ba ≠ g := by
      rintro rfl
      unfold Blk at hB hba
      rw [hB] at hba
      injection hba with hba
      injection hba with _ hba
      exact absurd hba (by decide)
    rw [txtC_map] at hb4
    obtain ⟨m0, m1⟩ := midR_start (keepT name) l hk (fun i hi hik => decide_eq_true (hk2 i hi hik)) (decide_eq_false (by simpa using hk1))
    have HB := Lib.hid hB
    have HM0 := Lib.hid m0
    have HM1 := Lib.hid m1
    have HC3 := Lib.hid (show cur.size = c * 1 from hb3)
    have HC4 := Lib.hid hb4
    have HL := Lib.hid hl
    have HBA := Lib.hid hbn
    have hkn : k < n := by omega
    have hk62 : k ≤ 1000000 := by omega
    have HBL := Lib.hid hba.lt
    have hc63 : c ≤ 9223372036854775807 := by unfold maxLen at hb2; omega
    have hneg : ((k : Int) == -1) = false := by rw [beq_eq_false_iff_ne]; omega
    have hk1w : IntKind.i64.wrap ((k : Int) + 1) = (k : Int) + 1 := IntWalk.i64_in _ (by omega)
    clear hidx hno h hba hcs hbn hl hb hB hb3 hb4 m0 m1 hk1 hk2
    go_enter Tryd.func22, Tryd.ntmps22
    go_wp2_with (go_at_call 39; refine hidx'.mono ?_; clear hidx'; rintro e w1 ⟨rfl, hbw1⟩)
    go_loopw [5, 6] (fun si sj wr => ∃ (i j : Nat) (cur' : Array Value), i < j ∧ j ≤ n ∧ si = .int .i64 (i : Int) ∧ sj = .int .i64 (j : Int) ∧ Aside (((l.take j).filter (keepT name)).length = i) ∧ Aside (Blk wr g 9 cur') ∧ Aside (cur'.size = c * 1) ∧ Aside (cur'.toList.take (n * 1) = (midR (keepT name) l i j).flatMap txtC) ∧ Aside (w.grownBy wr (some g))) (fun _ sj _ => n - (intOf sj).toNat)
    case atStart => exact ⟨k, k + 1, cur, Nat.lt_succ_self _, hkn, rfl, by go_num, HM1.out, HB.out.below hbw1 HB.out.lt, HC3.out, by show _ = _; rw [HM0.out]; exact HC4.out, ⟨hbw1.os, hbw1.tape, hbw1.output, hbw1.size, fun k hk _ => hbw1.block k hk⟩⟩
    case round =>
      obtain ⟨i, j, cur', hij, hjn, rfl, rfl, hlen, hB, hsz, ht, hg⟩ := hrel
      have hin : i < n := Nat.lt_of_lt_of_le hij hjn
      have hi62 : i ≤ 1000000 := by omega
      by_cases hlt : j < n
      · have hj1 : j + 1 ≤ n := hlt
        have hjl : j < l.length := by rw [HL.out]; exact hlt
        have c0 : wr.cell? ⟨g, j, none⟩ = some (.string ⟨l[j].toArray⟩) := by
          have h1 := midR_get (keepT name) l hlen.out (Nat.le_of_lt hij)
          have h2 : (cur'.toList.take (n * 1))[j]? = ((midR (keepT name) l i j).flatMap txtC)[j]? := by rw [show cur'.toList.take (n * 1) = _ from ht.out]
          rw [← txtC_map, List.getElem?_map, h1, List.getElem?_take, if_pos (by omega), List.getElem?_eq_getElem hjl] at h2
          rw [hB.out.cell, ← Array.getElem?_toList, h2]
          rfl
        have hcb : wr.cell? ⟨ba, 1, none⟩ = some (.string ⟨name.toArray⟩) := by
          rw [World.cell?_of_block (w := w) (a := ⟨ba, 1, none⟩) (hg.out.block ba HBL.out (by intro e9; injection e9 with e9; exact hbg e9))]
          exact HBA.out
        have hp := predS_any l[j] name ba wr hcb
        have hK := Lib.hid (fun h9 => midR_keep (keepT name) l hlen.out (Nat.le_of_lt hij) hjl h9)
        have hD := Lib.hid (fun h9 => midR_drop (keepT name) l hjl h9)
        have hKT := Lib.hid (show keepT name l[j] = !decide (l[j] = name) by unfold keepT; simp)
        have hMS := Lib.hid (sets_rec txtC 1 (fun _ => rfl) hsz.out (midR_len (keepT name) l hlen.out (by omega) |>.trans HL.out) (by omega : n ≤ c) ht.out hin l[j])
        generalize l[j] = x at *
        have i0 := hB.out.cell i
        rw [Array.getElem?_eq_getElem (show i < cur'.size by rw [hsz.out]; omega)] at i0
        by_cases hhit : x = name
        · rw [decide_eq_true hhit] at hp
          have HKF := Lib.hid (hD.out (by rw [hKT.out, decide_eq_true hhit]; rfl))
          clear hhit i0
          go_wp2_with (go_at_call 23; refine hp.mono ?_; clear hp; rintro e2 w2 ⟨rfl, hb2⟩)
          exact ⟨⟨i, j + 1, cur', Nat.lt_succ_of_lt hij, hj1, rfl, by go_num, by show _ = _; rw [HKF.out]; exact hlen.out, hB.out.below hb2 hB.out.lt, hsz.out, by show _ = _; unfold midR; rw [HKF.out]; exact ht.out, ⟨hb2.os.trans hg.out.os, hb2.tape.trans hg.out.tape, hb2.output.trans hg.out.output, Nat.le_trans hg.out.size hb2.size, fun q hq hne => by rw [hb2.block q (Nat.lt_of_lt_of_le hq hg.out.size), hg.out.block q hq hne]⟩⟩, by clear HKF; simp [intOf]; omega⟩
        · rw [decide_eq_false hhit] at hp
          have HKP := Lib.hid (hK.out (by rw [hKT.out, decide_eq_false hhit]; rfl))
          clear hhit
          go_wp2_with (go_at_call 23; refine hp.mono ?_; clear hp; rintro e2 w2 ⟨rfl, hb2⟩; have hB2 := hB.out.below hb2 hB.out.lt; have i2 := hB2.cell i; rw [Array.getElem?_eq_getElem (show i < cur'.size by rw [hsz.out]; omega)] at i2; have if2 := hB2.frozen i; have HB2 := Lib.hid hB2; clear hB2)
          have HS : Hid (Blk (w2.setCell ⟨g, i, none⟩ (.string ⟨x.toArray⟩)) g 9 (sets cur' (i * 1) (txtC x))) := by
            have h9 := HB2.out.set_ i (.string ⟨x.toArray⟩)
            rw [Nat.mul_one]
            exact h9
          exact ⟨⟨i + 1, j + 1, _, Nat.succ_lt_succ hij, hj1, by go_num, by go_num, HKP.out.2, HS.out, by show _ = _; rw [sets_size]; exact hsz.out, by show _ = _; rw [hMS.out, HKP.out.1], ⟨hb2.os.trans hg.out.os, hb2.tape.trans hg.out.tape, hb2.output.trans hg.out.output, by have := Nat.le_trans hg.out.size hb2.size; simpa [World.setCell] using this, fun q hq hne => by rw [Below.heap_setCell _ _ _ _ (fun e9 => hne (by rw [e9])), hb2.block q (Nat.lt_of_lt_of_le hq hg.out.size), hg.out.block q hq hne]⟩⟩, by clear HKP HS; simp [intOf]; omega⟩
      · obtain rfl : j = n := by omega
        have hlf : (l.filter (keepT name)).length = i := by
          have h9 := hlen.out
          rwa [List.take_of_length_le (Nat.le_of_eq HL.out)] at h9
        obtain ⟨vs, hvl, hcl⟩ := run_clear_any (W := wr) (T := 9) (sl := 29) (sz := 1) (off := i) (N := j - i) (c := c - i) Tryd.underlying29 Tryd.zeroValue9 rfl (by intro v hv; simp [Value.cells] at hv; rw [hv]; rfl) hB.out (by rw [hsz.out]; omega) (by omega)
        have HBF := Lib.hid (Blk.setCells vs i hB.out)
        have HGF := Lib.hid (grownBy_setCells (g := g) vs i hg.out)
        have HVL := Lib.hid hvl
        have hic : i ≤ c := by omega
        have hnec : ¬ i = c := by omega
        have hnec2 : ¬ c = i := by omega
        have hile : i ≤ j := Nat.le_of_lt hij
        have HT := Lib.hid (show (sets cur' i vs).toList.take (i * 1) = (l.filter (keepT name)).map encStr by
          have h1 : i + vs.length ≤ cur'.size := by rw [hsz.out, hvl]; omega
          have h2 := congrArg (List.take i) ht.out
          have h3 := midR_end (keepT name) l (i := i)
          rw [HL.out, hlf] at h3
          rw [← txtC_map, ← List.map_take, h3, List.take_take, Nat.mul_one, Nat.min_eq_left hile] at h2
          rw [Nat.mul_one, sets_list _ _ _ h1, List.append_assoc, List.take_append_of_le_length (by rw [List.length_take, Array.length_toList]; omega), List.take_take, Nat.min_self]
          exact h2)
        have HLF := Lib.hid hlf
        clear hvl hlf hlen
        go_wp2_with (fail)
        go_ret
        exact ⟨i, rfl, ⟨⟨by rw [List.length_map, HLF.out, Nat.mul_one], .inr ⟨g, c, _, rfl, Nat.zero_le _, HBF.out, hic, hb2, by rw [sets_size, hsz.out], HT.out⟩⟩, fun q hq => by injection hq with hq; rw [← hq]; exact hFg⟩, HGF.out⟩
end Go.Proofs.YtibndaianhlcaaaDoor
namespace Go.Proofs.YtibndaianhlcaaaDoor
open Go.RowKit Go.Sort Go.Shelf
set_option linter.unusedVariables false
set_option linter.unusedSimpArgs false

theorem first_ofE {L : List EV} {name : Txt} (h : ¬ ∀ i (hi : i < L.length), L[i].path ≠ name) : ∃ k, ∃ hk : k < L.length, L[k].path = name ∧ ∀ i (hi : i < L.length), i < k → L[i].path ≠ name := by
  obtain ⟨k, hk, h1, h2⟩ := first_of (L := L.map (·.path)) (name := name) (fun h' => h (fun i hi => by have := h' i (by simpa using hi); simpa using this))
  exact ⟨k, by simpa using hk, by simpa using h1, fun i hi hik => by have := h2 i (by simpa using hi) hik; simpa using this⟩
def keepE (name : Txt) (x : EV) : Bool := decide (x.path ≠ name)
def DelPostE (w : World) (F : Nat → Prop) (A : Option Addr) (n c : Nat) (l : List EV) (name : Txt) : Ending → World → Prop := fun e w' => ∃ m, e = .returned (.slice A m c) ∧ Row w' F 44 3 (.slice A m c) m ((l.filter (keepE name)).flatMap evCells) ∧ w.grownBy w' (Value.slice A n c).ownBlock
set_option maxRecDepth 100000 in
set_option maxHeartbeats 2000000 in
theorem delE_any {w : World} {F : Nat → Prop} {A : Option Addr} {n c : Nat} {l : List EV} (h : Row w F 44 3 (.slice A n c) n (l.flatMap evCells)) (hE : EntsAt w w.heap.size A n c l) (hn : n ≤ 1000000) (name : Txt) (ba : Nat) {cs : Array Value} (hba : Blk w ba 48 cs) (hcs : cs[1]? = some (.string ⟨name.toArray⟩)) :
    Calls Tryd.prog 20 #[.slice A n c, .func (.func 21) #[] #[.pointer (some ⟨ba, 0, none⟩)]] w (DelPostE w F A n c l name) := by
  have hbn : w.cell? ⟨ba, 1, none⟩ = some (.string ⟨name.toArray⟩) := by rw [hba.cell]; exact hcs
  have hl : l.length = n := hE.len
  have hidx := idxE_any hE (Nat.le_refl _) (by omega) name ba hbn
  by_cases hno : ∀ i (hi : i < l.length), l[i].path ≠ name
  · have hidx' : Calls Tryd.prog 38 #[.slice A n c, .func (.func 21) #[] #[.pointer (some ⟨ba, 0, none⟩)]] w fun e w' => e = .returned (.int .i64 (-1)) ∧ Below w.heap.size w w' := hidx.mono (by
      rintro e w' ⟨r, rfl, hf, hb⟩
      rcases hf with ⟨rfl, _⟩ | ⟨k, hk, _, h2, _⟩
      · exact ⟨rfl, hb⟩
      · exact absurd h2 (hno k hk))
    have HF := Lib.hid (show l.filter (keepE name) = l from List.filter_eq_self.2 fun x hx => by
      obtain ⟨i, hi, rfl⟩ := List.mem_iff_getElem.1 hx
      exact decide_eq_true (hno i hi))
    have H := Lib.hid h
    clear hidx hno h hE hba hcs hbn hl
    go_enter Tryd.func20, Tryd.ntmps20
    go_wp2_with (go_at_call 38; refine hidx'.mono ?_; clear hidx'; rintro e w1 ⟨rfl, hb1⟩)
    go_ret
    exact ⟨n, rfl, by rw [HF.out]; exact H.out.belo hb1, ⟨hb1.os, hb1.tape, hb1.output, hb1.size, fun k hk _ => hb1.block k hk⟩⟩
  · obtain ⟨k, hk, hk1, hk2⟩ := first_ofE hno
    have hidx' : Calls Tryd.prog 38 #[.slice A n c, .func (.func 21) #[] #[.pointer (some ⟨ba, 0, none⟩)]] w fun e w' => e = .returned (.int .i64 (k : Int)) ∧ Below w.heap.size w w' := hidx.mono (by
      rintro e w' ⟨r, rfl, hf, hb⟩
      rcases hf with ⟨_, h2⟩ | ⟨k', hk', rfl, h2, h3⟩
      · exact absurd hk1 (h2 k hk)
      · rcases Nat.lt_trichotomy k k' with h4 | h4 | h4
        · exact absurd hk1 (h3 k hk h4)
        · subst h4; exact ⟨rfl, hb⟩
        · exact absurd h2 (hk2 k' hk' h4))
    rcases h.own.2 with ⟨e, h0⟩ | ⟨g, cap, cur, e, hb0, hb, hb1, hb2, hb3, hb4⟩
    · omega
    injection e with e1 _ e3
    subst e1 e3
    have hB : Blk w g 44 cur := hb
    have hFg : F g := h.foot g rfl
    have hbg : ba ≠ g := by
      rintro rfl
      unfold Blk at hB hba
      rw [hB] at hba
      injection hba with hba
      injection hba with _ hba
      exact absurd hba (by decide)
    obtain ⟨m0, m1⟩ := midR_start (keepE name) l hk (fun i hi hik => decide_eq_true (hk2 i hi hik)) (decide_eq_false (by simpa using hk1))
    have HB := Lib.hid hB
    have HM0 := Lib.hid m0
    have HM1 := Lib.hid m1
    have HC3 := Lib.hid (show cur.size = c * 3 from hb3)
    have HC4 := Lib.hid hb4
    have HL := Lib.hid hl
    have HBA := Lib.hid hbn
    have hkn : k < n := by omega
    have hk62 : k ≤ 1000000 := by omega
    have HBL := Lib.hid hba.lt
    have hc63 : c ≤ 9223372036854775807 := by unfold maxLen at hb2; omega
    have hneg : ((k : Int) == -1) = false := by rw [beq_eq_false_iff_ne]; omega
    have hk1w : IntKind.i64.wrap ((k : Int) + 1) = (k : Int) + 1 := IntWalk.i64_in _ (by omega)
    clear hidx hno h hE hba hcs hbn hl hb hB hb3 hb4 m0 m1 hk1 hk2
    go_enter Tryd.func20, Tryd.ntmps20
    go_wp2_with (go_at_call 38; refine hidx'.mono ?_; clear hidx'; rintro e w1 ⟨rfl, hbw1⟩)
    go_loopw [5, 6] (fun si sj wr => ∃ (i j : Nat) (cur' : Array Value), i < j ∧ j ≤ n ∧ si = .int .i64 (i : Int) ∧ sj = .int .i64 (j : Int) ∧ Aside (((l.take j).filter (keepE name)).length = i) ∧ Aside (Blk wr g 44 cur') ∧ Aside (cur'.size = c * 3) ∧ Aside (cur'.toList.take (n * 3) = (midR (keepE name) l i j).flatMap evCells) ∧ Aside (w.grownBy wr (some g))) (fun _ sj _ => n - (intOf sj).toNat)
    case atStart => exact ⟨k, k + 1, cur, Nat.lt_succ_self _, hkn, rfl, by go_num, HM1.out, HB.out.below hbw1 HB.out.lt, HC3.out, by show _ = _; rw [HM0.out]; exact HC4.out, ⟨hbw1.os, hbw1.tape, hbw1.output, hbw1.size, fun k hk _ => hbw1.block k hk⟩⟩
    case round =>
      obtain ⟨i, j, cur', hij, hjn, rfl, rfl, hlen, hB, hsz, ht, hg⟩ := hrel
      have hin : i < n := Nat.lt_of_lt_of_le hij hjn
      have hi62 : i ≤ 1000000 := by omega
      by_cases hlt : j < n
      · have hj1 : j + 1 ≤ n := hlt
        have hjl : j < l.length := by rw [HL.out]; exact hlt
        have cE : ∀ t u, t < 3 → (evCells l[j])[t]? = some u → wr.cell? ⟨g, j * 3 + t, none⟩ = some u := fun t u ht3 hu => by
          have h1 := midR_get (keepE name) l hlen.out (Nat.le_of_lt hij)
          have hRl : (midR (keepE name) l i j).length = n := (midR_len (keepE name) l hlen.out (by omega)).trans HL.out
          have hjR : j < (midR (keepE name) l i j).length := by omega
          rw [List.getElem?_eq_getElem hjR, List.getElem?_eq_getElem hjl] at h1
          have h2 := flatMap_get evCells 3 (midR (keepE name) l i j) (fun o _ => evCells_length o) j t hjR ht3
          rw [Option.some.inj h1, hu, ← show cur'.toList.take (n * 3) = _ from ht.out, List.getElem?_take, if_pos (by omega)] at h2
          rw [hB.out.cell, ← Array.getElem?_toList, h2]
        have c0 := cE 0 _ (by decide) rfl
        have c1 := cE 1 _ (by decide) rfl
        have c2 := cE 2 _ (by decide) rfl
        rw [Nat.add_zero] at c0
        clear cE
        have hcb : wr.cell? ⟨ba, 1, none⟩ = some (.string ⟨name.toArray⟩) := by
          rw [World.cell?_of_block (w := w) (a := ⟨ba, 1, none⟩) (hg.out.block ba HBL.out (by intro e9; injection e9 with e9; exact hbg e9))]
          exact HBA.out
        have hbal : ba < wr.heap.size := World.block_lt_of_cell? _ _ hcb
        have hgl : g < wr.heap.size := hB.out.lt
        have hp := predE_any l[j] name ba (wr.alloc (.cells (evArr l[j]) 44)) ((cells_alloc hbal _ 1).trans hcb)
        have HVAR := Lib.hid (Blk.new wr 44 (evArr l[j]))
        have HBV := Lib.hid ((Below.refl wr.heap.size wr).alloc (Nat.le_refl _) (.cells (evArr l[j]) 44))
        have hK := Lib.hid (fun h9 => midR_keep (keepE name) l hlen.out (Nat.le_of_lt hij) hjl h9)
        have hD := Lib.hid (fun h9 => midR_drop (keepE name) l hjl h9)
        have hKT := Lib.hid (show keepE name l[j] = !decide (l[j].path = name) by unfold keepE; simp)
        have hMS := Lib.hid (sets_rec evCells 3 (fun _ => rfl) hsz.out (midR_len (keepE name) l hlen.out (by omega) |>.trans HL.out) (by omega : n ≤ c) ht.out hin l[j])
        generalize l[j] = x at *
        have hc3 : i * 3 + 2 < cur'.size := by rw [hsz.out]; omega
        by_cases hhit : x.path = name
        · rw [decide_eq_true hhit] at hp
          have HKF := Lib.hid (hD.out (by rw [hKT.out, decide_eq_true hhit]; rfl))
          clear hhit
          obtain ⟨xp, xk, xd, xA, xn, xc⟩ := x
          unfold evArr at hp
          simp only at c0 c1 c2 hp
          go_wp2_with (go_at_call 21; refine hp.mono ?_; clear hp; rintro e2 w2 ⟨rfl, hb2⟩; have hb2' := HBV.out.trans (Below.mono hb2 HBV.out.size); clear hb2; have hb2 := hb2'; clear hb2')
          exact ⟨⟨i, j + 1, cur', Nat.lt_succ_of_lt hij, hj1, rfl, by go_num, by show _ = _; rw [HKF.out]; exact hlen.out, hB.out.below hb2 hB.out.lt, hsz.out, by show _ = _; unfold midR; rw [HKF.out]; exact ht.out, ⟨hb2.os.trans hg.out.os, hb2.tape.trans hg.out.tape, hb2.output.trans hg.out.output, Nat.le_trans hg.out.size hb2.size, fun q hq hne => by rw [hb2.block q (Nat.lt_of_lt_of_le hq hg.out.size), hg.out.block q hq hne]⟩⟩, by clear HKF; simp [intOf]; omega⟩
        · rw [decide_eq_false hhit] at hp
          have HKP := Lib.hid (hK.out (by rw [hKT.out, decide_eq_false hhit]; rfl))
          clear hhit
          obtain ⟨xp, xk, xd, xA, xn, xc⟩ := x
          unfold evArr at hp HVAR HBV
          simp only at c0 c1 c2 hp
          go_wp2_with (go_at_call 21; go_loud (refine hp.mono ?_; clear hp; rintro e2 w2 ⟨rfl, hb9⟩; have hb2 := HBV.out.trans (Below.mono hb9 HBV.out.size); have hV2 := HVAR.out.below hb9 HVAR.out.lt; have v0 := hV2.cell 0; have v1 := hV2.cell 1; have v2 := hV2.cell 2; simp only [List.getElem?_toArray, List.getElem?_cons_zero, List.getElem?_cons_succ] at v0 v1 v2; have hB2 := hB.out.below hb2 hB.out.lt; have i0 := hB2.cell (i * 3); have i1 := hB2.cell (i * 3 + 1); have i2 := hB2.cell (i * 3 + 2); rw [Array.getElem?_eq_getElem (Nat.lt_of_le_of_lt (Nat.le_add_right _ 2) hc3)] at i0; rw [Array.getElem?_eq_getElem (Nat.lt_of_succ_lt hc3)] at i1; rw [Array.getElem?_eq_getElem hc3] at i2; have if0 := hB2.frozen (i * 3); have if1 := hB2.frozen (i * 3 + 1); have if2 := hB2.frozen (i * 3 + 2); have HB2 := Lib.hid hB2; have HBB := Lib.hid hb2; clear hB2 hV2 hb9 hb2))
          have hb2 := HBB.out
          have HS := Lib.hid (((HB2.out.set_ (i * 3) (.string ⟨xp.toArray⟩)).set_ (i * 3 + 1) (.int .i64 xk)).set_ (i * 3 + 2) (.slice xA xn xc))
          exact ⟨⟨i + 1, j + 1, _, Nat.succ_lt_succ hij, hj1, by go_num, by go_num, HKP.out.2, HS.out, by show _ = _; rw [show ((cur'.setIfInBounds (i * 3) (.string ⟨xp.toArray⟩)).setIfInBounds (i * 3 + 1) (.int .i64 xk)).setIfInBounds (i * 3 + 2) (.slice xA xn xc) = sets cur' (i * 3) (evCells ⟨xp, xk, xd, xA, xn, xc⟩) from rfl, sets_size]; exact hsz.out, by show _ = _; rw [show ((cur'.setIfInBounds (i * 3) (.string ⟨xp.toArray⟩)).setIfInBounds (i * 3 + 1) (.int .i64 xk)).setIfInBounds (i * 3 + 2) (.slice xA xn xc) = sets cur' (i * 3) (evCells ⟨xp, xk, xd, xA, xn, xc⟩) from rfl, hMS.out, HKP.out.1], ⟨hb2.os.trans hg.out.os, hb2.tape.trans hg.out.tape, hb2.output.trans hg.out.output, by have := Nat.le_trans hg.out.size hb2.size; simpa [World.setCell] using this, fun q hq hne => by rw [Below.heap_setCell _ _ _ _ (fun e9 => hne (by rw [e9])), Below.heap_setCell _ _ _ _ (fun e9 => hne (by rw [e9])), Below.heap_setCell _ _ _ _ (fun e9 => hne (by rw [e9])), hb2.block q (Nat.lt_of_lt_of_le hq hg.out.size), hg.out.block q hq hne]⟩⟩, by clear HKP HS; simp [intOf]; omega⟩
      · obtain rfl : j = n := by omega
        have hlf : (l.filter (keepE name)).length = i := by
          have h9 := hlen.out
          rwa [List.take_of_length_le (Nat.le_of_eq HL.out)] at h9
        obtain ⟨vs, hvl, hcl⟩ := run_clear_any (W := wr) (T := 44) (sl := 28) (sz := 3) (off := i * 3) (N := j - i) (c := c - i) Tryd.underlying28 Tryd.zeroValue44 rfl (by intro v hv; simp [Value.cells] at hv; rcases hv with rfl | rfl | rfl <;> rfl) hB.out (by rw [hsz.out]; omega) (by omega)
        have HBF := Lib.hid (Blk.setCells vs (i * 3) hB.out)
        have HGF := Lib.hid (grownBy_setCells (g := g) vs (i * 3) hg.out)
        have HVL := Lib.hid hvl
        have hic : i ≤ c := by omega
        have hnec : ¬ i = c := by omega
        have hnec2 : ¬ c = i := by omega
        have hile : i ≤ j := Nat.le_of_lt hij
        have HT := Lib.hid (show (sets cur' (i * 3) vs).toList.take (i * 3) = (l.filter (keepE name)).flatMap evCells by
          have h1 : i * 3 + vs.length ≤ cur'.size := by rw [hsz.out, hvl]; omega
          have h2 : (cur'.toList.take (j * 3)).take (i * 3) = ((midR (keepE name) l i j).flatMap evCells).take (i * 3) := by rw [show cur'.toList.take (j * 3) = _ from ht.out]
          have h3 := midR_end (keepE name) l (i := i)
          rw [HL.out, hlf] at h3
          rw [(flatMap_take evCells 3 _ i (fun o _ => evCells_length o)).1, h3, List.take_take, Nat.min_eq_left (by omega)] at h2
          have h4 : cur'.toList.length = cur'.size := Array.length_toList
          rw [sets_list _ _ _ h1, List.append_assoc, List.take_append_of_le_length (by rw [List.length_take]; omega), List.take_take, Nat.min_self]
          exact h2)
        have HLF := Lib.hid hlf
        clear hvl hlf hlen
        go_wp2_with (fail)
        go_ret
        exact ⟨i, rfl, ⟨⟨by rw [flatMap_len evCells 3 _ (fun o _ => evCells_length o), HLF.out], .inr ⟨g, c, _, rfl, Nat.zero_le _, HBF.out, hic, hb2, by rw [sets_size, hsz.out], HT.out⟩⟩, fun q hq => by injection hq with hq; rw [← hq]; exact hFg⟩, HGF.out⟩
end Go.Proofs.YtibndaianhlcaaaDoor
namespace Go.Proofs.YtibndaianhlcaaaDoor
open Go.RowKit Go.Sort Go.Shelf
set_option linter.unusedVariables false
set_option linter.unusedSimpArgs false

section
variable {w w' : World} {F : Nat → Prop} {g : Nat} {s : Mach} {fA : Option Addr} {fn fc : Nat} {es : List EV} {uA : Option Addr} {un uc : Nat} {nA : Option Addr} {nn nc : Nat} {us : List SV} {pA : Option Addr} {pn pc : Nat}
theorem MachV.setFiles (h : MachV w F g s fA fn fc es uA un uc nA nn nc us pA pn pc) {G : Nat → Prop} (hg : w.grownBy w' (Value.slice fA fn fc).ownBlock) (hF : ∀ k, F k → G k) {fA' : Option Addr} {fn' fc' : Nat} {es' : List EV}
    (hu : Row w' G 44 3 (.slice fA' fn' fc') fn' (es'.flatMap evCells)) (hd : ∀ e ∈ es', e ∈ es ∨ Row w' G 5 1 (.slice e.A e.n e.c) e.n (e.data.map bv)) :
    MachV (w'.setCell ⟨g, 0, none⟩ (.slice fA' fn' fc')) G g ⟨es'.map EV.ent, s.users, s.units, s.plan⟩ fA' fn' fc' es' uA un uc nA nn nc us pA pn pc := by
  have ht := row_typed h.files
  have k1 : ∀ {e : TypeId}, e ≠ 44 → _ := fun {e} he => grown_other hg ht (e := e) he
  have hB : Blk w' g 36 _ := (k1 (by decide) g _ (0, 0) h.blk).trans h.blk
  have k2 : ∀ {e : TypeId}, e ≠ 36 → _ := fun {e} he => set_other hB (e := e) he 0 (.slice fA' fn' fc')
  have hs : w'.heap.size ≤ (w'.setCell ⟨g, 0, none⟩ (.slice fA' fn' fc')).heap.size := by simp [World.setCell]
  refine ⟨hB.set_ 0 _, hF _ h.foot, hu.other (k2 (by decide)), rfl, fun e he => ?_, ((h.users.other (k1 (by decide))).other (k2 (by decide))).wide hF, ((h.units.other (k1 (by decide))).other (k2 (by decide))).wide hF, h.srvs,
    fun u hu' => (((h.req u hu').other (k1 (by decide))).other (k2 (by decide))).wide hF, fun u hu' => (((h.aft u hu').other (k1 (by decide))).other (k2 (by decide))).wide hF, ((h.plan.other hg.size (k1 (by decide))).other hs (k2 (by decide))).wide hF, h.sep⟩
  rcases hd e he with h1 | h1
  · exact (((h.data e h1).other (k1 (by decide))).other (k2 (by decide))).wide hF
  · exact h1.other (k2 (by decide))
theorem MachV.kept0 (h : MachV w F g s fA fn fc es uA un uc nA nn nc us pA pn pc) (hg : w.grownBy w' (Value.slice fA fn fc).ownBlock) : w'.cell? ⟨g, 0, none⟩ = some (.slice fA fn fc) ∧ w'.frozen? ⟨g, 0, none⟩ = false := by
  have hk := grown_other hg (row_typed h.files) (e := 36) (by decide) g _ (0, 0) h.blk
  have hB : Blk w' g 36 _ := hk.trans h.blk
  exact ⟨hB.cell 0, hB.frozen 0⟩
end
/-- The files that are kept, as the model says. -/
theorem filter_ents (es : List EV) (name : Txt) : (es.filter (keepE name)).map EV.ent = (es.map EV.ent).filter fun x => decide (x.path ≠ name) := by
  rw [List.filter_map]
  rfl
end Go.Proofs.YtibndaianhlcaaaDoor
namespace Go.Proofs.YtibndaianhlcaaaDoor
open Go.RowKit Go.Sort Go.Shelf
set_option linter.unusedVariables false
set_option linter.unusedSimpArgs false

theorem compare_sound : ∀ a b : Txt, (Lib.compareBytes a b < 0 ↔ a < b) ∧ (Lib.compareBytes a b = 0 ↔ a = b)
  | [], [] => by simp [Lib.compareBytes]
  | [], b :: bs => by simp [Lib.compareBytes]
  | a :: as', [] => by simp [Lib.compareBytes]
  | a :: as', b :: bs => by
    have ih := compare_sound as' bs
    unfold Lib.compareBytes
    by_cases h1 : a < b
    · rw [if_pos h1]
      refine ⟨⟨fun _ => List.Lex.rel h1, fun _ => (by decide)⟩, ⟨fun h => absurd h (by decide), fun h => ?_⟩⟩
      injection h with h _
      subst h
      exact absurd h1 (by simp)
    · rw [if_neg h1]
      by_cases h2 : b < a
      · rw [if_pos h2]
        refine ⟨⟨fun h => absurd h (by decide), fun h => ?_⟩, ⟨fun h => absurd h (by decide), fun h => ?_⟩⟩
        · rcases List.cons_lt_cons_iff.1 h with h3 | ⟨h3, _⟩
          · exact absurd h3 h1
          · subst h3; exact absurd h2 h1
        · injection h with h _
          subst h
          exact absurd h2 h1
      · rw [if_neg h2]
        have hab : a = b := by
          apply UInt8.toNat_inj.1
          have e1 : ¬ a.toNat < b.toNat := h1
          have e2 : ¬ b.toNat < a.toNat := h2
          omega
        subst hab
        refine ⟨ih.1.trans ⟨fun h => List.cons_lt_cons_iff.2 (.inr ⟨rfl, h⟩), fun h => ?_⟩, ih.2.trans ⟨fun h => (by rw [h]), fun h => (by injection h)⟩⟩
        rcases List.cons_lt_cons_iff.1 h with h3 | ⟨_, h3⟩
        · exact absurd h3 h1
        · exact h3
set_option maxRecDepth 100000 in
theorem cmpE_any (x : EV) (p : Txt) (w : World) :
    Calls Tryd.prog 42 #[.agg (evArr x), .string ⟨p.toArray⟩] w fun e w' => e = .returned (.int .i64 (Lib.compareBytes x.path p)) ∧ Below w.heap.size w w' := by
  have hb := (Below.refl w.heap.size w).alloc (Nat.le_refl _) (.cells (evArr x) 44)
  have hc := Tryd.strings_Compare ⟨x.path.toArray⟩ ⟨p.toArray⟩ (w.alloc (.cells (evArr x) 44))
  have e1 : (ByteArray.mk x.path.toArray).data.toList = x.path := rfl
  have e2 : (ByteArray.mk p.toArray).data.toList = p := rfl
  rw [e1, e2] at hc
  generalize Lib.compareBytes x.path p = r at *
  have HB := Lib.hid hb
  clear hb e1 e2
  obtain ⟨xp, xk, xd, xA, xn, xc⟩ := x
  unfold evArr at hc ⊢
  simp only at hc ⊢
  go_enter Tryd.func42, Tryd.ntmps42
  go_wp2_with (go_at_call 43; refine hc.mono ?_; clear hc; rintro e2 w2 ⟨rfl, rfl⟩)
  go_ret
  exact ⟨rfl, HB.out⟩
end Go.Proofs.YtibndaianhlcaaaDoor
namespace Go.Proofs.YtibndaianhlcaaaDoor
open Go.RowKit Go.Sort Go.Shelf
set_option linter.unusedVariables false
set_option linter.unusedSimpArgs false

theorem ahead_lo {L : List Txt} {x : Txt} (hr : Rises L) {m : Nat} (hm : m < L.length) (h : L[m] < x) : m + 1 ≤ aheadN L x := by
  rcases Nat.lt_or_ge m (aheadN L x) with h1 | h1
  · exact h1
  · exfalso
    rcases Nat.eq_or_lt_of_le h1 with h2 | h2
    · subst h2; exact aheadN_ge L x hm h
    · exact aheadN_ge L x (by omega) (List.lt_trans (rises_get hr (by omega) hm h2) h)
theorem ahead_hi {L : List Txt} {x : Txt} {m : Nat} (hm : m < L.length) (h : ¬ L[m] < x) : aheadN L x ≤ m := by
  rcases Nat.lt_or_ge m (aheadN L x) with h1 | h1
  · exact absurd (aheadN_lt L x h1 hm) h
  · exact h1
set_option maxRecDepth 100000 in
set_option maxHeartbeats 1000000 in
theorem bsE_any {w : World} {B : Nat} {A : Option Addr} {n c : Nat} {es : List EV} (h : EntsAt w B A n c es) (hB : B ≤ w.heap.size) (hn : n ≤ 1000000) (hr : Rises (es.map (·.path))) (x : Txt) :
    Calls Tryd.prog 41 #[.slice A n c, .string ⟨x.toArray⟩, .func (.func 42) #[] #[]] w fun e w' => e = .returned (.tuple #[.int .i64 (aheadN (es.map (·.path)) x : Int), .bool (decide ((es.map (·.path))[aheadN (es.map (·.path)) x]? = some x))]) ∧ Below w.heap.size w w' := by
  obtain ⟨L, hL⟩ : ∃ L, L = es.map (·.path) := ⟨_, rfl⟩
  rw [← hL] at hr ⊢
  have hLn : L.length = n := by rw [hL, List.length_map, h.len]
  obtain ⟨K, hK⟩ : ∃ K, K = aheadN L x := ⟨_, rfl⟩
  have hKn : K ≤ n := by rw [hK, ← hLn]; exact aheadN_le L x
  have H := Lib.hid h
  have HL := Lib.hid hL
  have HLN := Lib.hid hLn
  have HR := Lib.hid hr
  have HK := Lib.hid hK
  rw [← hK]
  clear h hL hLn hr hK
  go_enter Tryd.func41, Tryd.ntmps41
  go_wp2_with (fail)
  go_loopw [9, 10] (fun s9 s10 wr => ∃ lo hi : Nat, s9 = .int .i64 (lo : Int) ∧ s10 = .int .i64 (hi : Int) ∧ lo ≤ K ∧ K ≤ hi ∧ hi ≤ n ∧ Aside (Below w.heap.size w wr)) (fun s9 s10 _ => (intOf s10).toNat - (intOf s9).toNat)
  case atStart => exact ⟨0, n, rfl, rfl, Nat.zero_le _, hKn, Nat.le_refl _, Below.refl _ _⟩
  case round =>
    obtain ⟨lo, hi, rfl, rfl, hlo, hhi, hin, hb⟩ := hrel
    by_cases hlt : lo < hi
    · have hmn : (lo + hi) / 2 < n := by omega
      have hml : lo ≤ (lo + hi) / 2 := by omega
      have hmh : (lo + hi) / 2 < hi := by omega
      obtain ⟨b, off, rfl, hbB, hl, c0, c1, c2, _⟩ := (H.out.below (hb.out.mono hB)).at_ hmn
      have hcmp := cmpE_any es[(lo + hi) / 2] x wr
      have hs := compare_sound es[(lo + hi) / 2].path x
      have hmL : (lo + hi) / 2 < L.length := by rw [HLN.out]; exact hmn
      have hg : L[(lo + hi) / 2] = es[(lo + hi) / 2].path := by have := HL.out; subst this; simp
      have HLo : Hid (es[(lo + hi) / 2].path < x → (lo + hi) / 2 + 1 ≤ K) := fun h9 => by rw [HK.out]; exact ahead_lo HR.out hmL (by rw [hg]; exact h9)
      have HHi : Hid (¬ es[(lo + hi) / 2].path < x → K ≤ (lo + hi) / 2) := fun h9 => by rw [HK.out]; exact ahead_hi hmL (by rw [hg]; exact h9)
      generalize es[(lo + hi) / 2] = y at *
      generalize Lib.compareBytes y.path x = r at *
      have HS := Lib.hid hs.1
      clear hg hs
      obtain ⟨yp, yk, yd, yA, yn, yc⟩ := y
      unfold evArr at hcmp
      simp only at c0 c1 c2 hcmp
      by_cases hr0 : r < 0
      · have HN := Lib.hid (HLo.out (HS.out.1 hr0))
        go_wp2_with (go_at_call 42; refine hcmp.mono ?_; clear hcmp; rintro e2 w2 ⟨rfl, hb2⟩)
        exact ⟨⟨(lo + hi) / 2 + 1, hi, by rw [show ((lo : Int) + (hi : Int)) / 2 + 1 = (((lo + hi) / 2 + 1 : Nat) : Int) by omega], rfl, HN.out, hhi, hin, hb.out.trans (hb2.mono hb.out.size)⟩, by clear HN; simp [intOf]; omega⟩
      · have HN := Lib.hid (HHi.out (fun h9 => hr0 (HS.out.2 h9)))
        go_wp2_with (go_at_call 42; refine hcmp.mono ?_; clear hcmp; rintro e2 w2 ⟨rfl, hb2⟩)
        exact ⟨⟨lo, (lo + hi) / 2, rfl, by rw [show ((lo : Int) + (hi : Int)) / 2 = (((lo + hi) / 2 : Nat) : Int) by omega], hlo, HN.out, by omega, hb.out.trans (hb2.mono hb.out.size)⟩, by clear HN; simp [intOf]; omega⟩
    · obtain rfl : lo = K := by omega
      by_cases hKn' : lo < n
      · obtain ⟨b, off, rfl, hbB, hl, c0, c1, c2, _⟩ := (H.out.below (hb.out.mono hB)).at_ hKn'
        have hcmp := cmpE_any es[lo] x wr
        have hs := compare_sound es[lo].path x
        have hKL : lo < L.length := by rw [HLN.out]; exact hKn'
        have hg : L[lo]? = some es[lo].path := by have := HL.out; subst this; simp [hl]
        have HD := Lib.hid (show decide (L[lo]? = some x) = decide (Lib.compareBytes es[lo].path x = 0) from decide_eq_decide.2 ⟨fun h9 => hs.2.2 (Option.some.inj (hg.symm.trans h9)), fun h9 => by rw [hg, hs.2.1 h9]⟩)
        generalize es[lo] = y at *
        generalize Lib.compareBytes y.path x = r at *
        obtain ⟨yp, yk, yd, yA, yn, yc⟩ := y
        unfold evArr at hcmp
        simp only at c0 c1 c2 hcmp
        clear hs hg
        by_cases hr0 : r = 0
        · have HE := Lib.hid (HD.out.trans (decide_eq_true hr0))
          subst hr0
          go_wp2_with (go_at_call 42; refine hcmp.mono ?_; clear hcmp; rintro e2 w2 ⟨rfl, hb2⟩)
          go_ret2
          exact ⟨by rw [HE.out]; rfl, hb.out.trans (hb2.mono hb.out.size)⟩
        · have HE := Lib.hid (HD.out.trans (decide_eq_false hr0))
          have hr1 : (r == 0) = false := by rw [beq_eq_false_iff_ne]; exact hr0
          go_wp2_with (go_at_call 42; refine hcmp.mono ?_; clear hcmp; rintro e2 w2 ⟨rfl, hb2⟩)
          go_ret2
          exact ⟨by rw [HE.out]; rfl, hb.out.trans (hb2.mono hb.out.size)⟩
      · have HE := Lib.hid (show decide (L[lo]? = some x) = false from decide_eq_false (fun h9 => by have := (List.getElem?_eq_some_iff.1 h9).1; have := HLN.out; omega))
        go_wp2_with (fail)
        go_ret2
        exact ⟨by rw [HE.out]; rfl, hb.out⟩
end Go.Proofs.YtibndaianhlcaaaDoor
namespace Go.Proofs.YtibndaianhlcaaaDoor
open Go.RowKit Go.Sort Go.Shelf
set_option linter.unusedVariables false
set_option linter.unusedSimpArgs false

theorem three_parts {pre mid post L : List Value} {a s r : Nat} (ha : pre.length = a) (hs : mid.length = s) (hr : post.length = r) (h1 : ∀ j, j < a → L[j]? = pre[j]?) (h2 : ∀ j, j < s → L[a + j]? = mid[j]?) (h3 : ∀ j, j < r → L[a + s + j]? = post[j]?) :
    L.take (a + s + r) = pre ++ mid ++ post := by
  apply List.ext_getElem?
  intro j
  rw [List.getElem?_take]
  by_cases c1 : j < a
  · rw [if_pos (by omega), h1 j c1, List.append_assoc, List.getElem?_append_left (by omega)]
  · by_cases c2 : j < a + s
    · have := h2 (j - a) (by omega)
      rw [show a + (j - a) = j by omega] at this
      rw [if_pos (by omega), this, List.append_assoc, List.getElem?_append_right (by omega), List.getElem?_append_left (by omega), ha]
    · by_cases c3 : j < a + s + r
      · have := h3 (j - (a + s)) (by omega)
        rw [show a + s + (j - (a + s)) = j by omega] at this
        rw [if_pos c3, this, List.getElem?_append_right (by rw [List.length_append]; omega), List.length_append, ha, hs]
      · rw [if_neg c3, List.getElem?_eq_none (by simp only [List.length_append]; omega)]
theorem sets_two1 {cur : Array Value} {pre mid post : List Value} {a s r : Nat} (ha : pre.length = a) (hs : mid.length = s) (hr : post.length = r) (hc : a + s + r ≤ cur.size) (ht : ∀ j, j < a → cur.toList[j]? = pre[j]?) :
    (sets (sets cur (a + s) post) a mid).toList.take (a + s + r) = pre ++ mid ++ post := by
  have e1 : a + s + post.length ≤ cur.size := by omega
  have e2 : a + mid.length ≤ (sets cur (a + s) post).size := by rw [sets_size]; omega
  refine three_parts ha hs hr (fun j hj => ?_) (fun j hj => ?_) (fun j hj => ?_)
  · rw [sets_get e2, if_pos hj, sets_get e1, if_pos (by omega)]; exact ht j hj
  · rw [sets_get e2, if_neg (by omega), if_pos (by omega)]; congr 1; omega
  · rw [sets_get e2, if_neg (by omega), if_neg (by omega), sets_get e1, if_neg (by omega), if_pos (by omega)]; congr 1; omega
theorem sets_two2 {cur : Array Value} {pre mid post : List Value} {a s r : Nat} (ha : pre.length = a) (hs : mid.length = s) (hr : post.length = r) (hc : a + s + r ≤ cur.size) (ht : ∀ j, j < a → cur.toList[j]? = pre[j]?) :
    (sets (sets cur a mid) (a + s) post).toList.take (a + s + r) = pre ++ mid ++ post := by
  have e1 : a + mid.length ≤ cur.size := by omega
  have e2 : a + s + post.length ≤ (sets cur a mid).size := by rw [sets_size]; omega
  refine three_parts ha hs hr (fun j hj => ?_) (fun j hj => ?_) (fun j hj => ?_)
  · rw [sets_get e2, if_pos (by omega), sets_get e1, if_pos hj]; exact ht j hj
  · rw [sets_get e2, if_pos (by omega), sets_get e1, if_neg (by omega), if_pos (by omega)]; congr 1; omega
  · rw [sets_get e2, if_neg (by omega), if_pos (by omega)]; congr 1; omega
theorem ins_flat {α : Type} (cells : α → List Value) (l : List α) (i : Nat) (x : α) : (insA l i x).flatMap cells = (l.take i).flatMap cells ++ cells x ++ (l.drop i).flatMap cells := by
  unfold insA
  rw [List.flatMap_append, List.flatMap_cons, List.append_assoc]
end Go.Proofs.YtibndaianhlcaaaDoor
namespace Go.Proofs.YtibndaianhlcaaaDoor
open Go.RowKit Go.Sort Go.Shelf
set_option linter.unusedVariables false
set_option linter.unusedSimpArgs false

def InsPostE (w : World) (F : Nat → Prop) (A : Option Addr) (n c : Nat) (l : List EV) (i : Nat) (x : EV) : Ending → World → Prop := fun e w' => ∃ A' c', e = .returned (.slice A' (n + 1) c') ∧ Row w' (Fn F w w') 44 3 (.slice A' (n + 1) c') (n + 1) ((insA l i x).flatMap evCells) ∧ w.grownBy w' (Value.slice A n c).ownBlock
set_option maxRecDepth 100000 in
set_option maxHeartbeats 1000000 in
theorem insE_end {w : World} {F : Nat → Prop} {A : Option Addr} {n c : Nat} {l : List EV} (h : Row w F 44 3 (.slice A n c) n (l.flatMap evCells)) (hn : n ≤ 1000000) (x : EV) {vb : Nat} (hv : Blk w vb 44 (evArr x)) :
    Calls Tryd.prog 44 #[.slice A n c, .int .i64 (n : Int), .slice (some ⟨vb, 0, none⟩) 1 1] w (InsPostE w F A n c l n x) := by
  have hl : l.length = n := by have h1 := h.own.1; rw [flatMap_len evCells 3 l (fun o _ => evCells_length o)] at h1; omega
  obtain ⟨i, hi, hz0, hz1, hz2⟩ := info_parts ent_info
  have hS : Slc w (vb + 1) 3 (some ⟨vb, 0, none⟩) 1 1 (evCells x) := hv.slc (sz := 3) (n := 1) (c := 1) (Nat.le_refl _) (Nat.le_refl _) (by decide)
  obtain ⟨A', c', w', r1, r2, r3, r4⟩ := append_slc (P := Tryd.prog) w 0 28 28 44 i _ 3 48 Tryd.underlying28 hi hz0 hz1 hz2 rfl (by decide) _ n (l.flatMap evCells) h.own _ _ 1 1 (evCells x) hS (fun v hv => evCells_one [x] v (by simpa using hv)) (by unfold maxLen; omega) (by omega) (Nat.zero_le _)
  have HP : Hid (InsPostE w F A n c l n x (.returned (.slice A' (n + 1) c')) w') := by
    refine ⟨A', c', rfl, ⟨?_, fun k hk => ?_⟩, r3⟩
    · rw [ins_flat, List.take_of_length_le (by omega), List.drop_eq_nil_of_le (by omega)]
      simpa using r2
    · rcases r4 with r4 | r4
      · rw [r4] at hk
        exact .inl (h.foot k hk)
      · have hl := (r2.lt k hk).2
        rw [r4] at hk
        injection hk with hk
        exact .inr ⟨by omega, hl⟩
  have HR := Lib.hid r1
  clear r1 r2 r3 r4 hS hv hl
  have hnn : ((n : Int) == (n : Int)) = true := by simp
  rcases h.own.2 with ⟨e, h0⟩ | ⟨g, cap, cur, e, hb0, hb, hb1, hb2, hb3, hb4⟩
  · injection e with e1 _ e3
    subst e1 e3 h0
    clear h
    go_enter Tryd.func44, Tryd.ntmps44
    go_wp2_with (at_builtin; refine wpList_append_run rfl _ _ _ rfl rfl rfl HR.out ?_; clear HR)
    go_ret
    exact HP.out
  · injection e with e1 _ e3
    subst e1 e3
    have hc63 : c ≤ 9223372036854775807 := by unfold maxLen at hb2; omega
    clear h hb hb3 hb4 hb0
    by_cases hnc : n = c
    · subst hnc
      go_enter Tryd.func44, Tryd.ntmps44
      go_wp2_with (at_builtin; refine wpList_append_run rfl _ _ _ rfl rfl rfl HR.out ?_; clear HR)
      go_ret
      exact HP.out
    · have hcn : ¬ c = n := fun e => hnc e.symm
      go_enter Tryd.func44, Tryd.ntmps44
      go_wp2_with (at_builtin; refine wpList_append_run rfl _ _ _ rfl rfl rfl HR.out ?_; clear HR)
      go_ret
      exact HP.out
end Go.Proofs.YtibndaianhlcaaaDoor
namespace Go.Proofs.YtibndaianhlcaaaDoor
open Go.RowKit Go.Sort Go.Shelf
set_option linter.unusedVariables false
set_option linter.unusedSimpArgs false

/-- copy of k elements of size sz, into cells that may be written. -/
theorem run_copy_sized (w : World) (dT sT ty elem : TypeId) (sz k : Nat) (b o dLen dCap : Nat) (a : Addr) (sLen sCap : Nat) (cs : List Value) (hu : Tryd.prog.underlying dT = some (.slice elem)) (hs : (Tryd.prog.info? elem).map (·.size) = some sz) (hk : Nat.min sLen dLen = k) (hn : cs.length = k * sz)
    (hsrc : ∀ j v, cs[j]? = some v → w.cell? (a.add j) = some v) (hc : ∀ j, j < cs.length → (w.cell? ⟨b, o + j, none⟩).isSome = true) (hf : ∀ j, j < cs.length → w.frozen? ⟨b, o + j, none⟩ = false) (h1 : ∀ v ∈ cs, v.oneCell' = true) :
    (Builtin.copy_ #[dT, sT] ty #[.slice (some ⟨b, o, none⟩) dLen dCap, .slice (some a) sLen sCap]).run Tryd.prog w = .ok (goInt k) (w.setCells b o cs) := by
  have hl := run_loadCells_list (P := Tryd.prog) w a cs hsrc
  have hst := run_storeCells_cells (P := Tryd.prog) b o cs 0 w (by simpa using hc) (by simpa using hf) h1
  cases hq : Tryd.prog.info? elem with
  | none => simp [hq] at hs
  | some i =>
    have hi : i.size = sz := by simpa [hq] using hs
    simp [Builtin.copy_, run_underlying hu, Builtin.lenOf, Builtin.firstCells, Go.sizeOf, typeInfo, hq, hi, hk, ← hn, hl, hst]
end Go.Proofs.YtibndaianhlcaaaDoor
