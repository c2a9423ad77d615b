/- The walk of tree.Bytes. -/
import Derived.Test.YtdhlklidenfbeaaGreatDoorRight
import Derived.Test.YtdhlklidenfbeaaGreatDoorItoa
import Derived.Test.YtdhlklidenfbeaaGreatDoorBufZ
import Derived.Deep.RegionHeld3
import Derived.Lib.BufferOld
namespace Go.Proofs.YtdhlklidenfbeaaGreatDoor
open Go.RowKit Go.Shelf
set_option linter.unusedVariables false
set_option linter.unusedSimpArgs false

def kindW (k : Int) : Txt := if k = 3 then [108, 32] else [102, 32]
def entT (x : Ent) : Txt := kindW x.kind ++ x.path ++ [32] ++ Lib.itoa (x.data.length : Int) ++ [10] ++ x.data ++ [10]
def entsT (l : List Ent) (k : Nat) : Txt := [116, 114, 101, 101, 10] ++ (l.take k).flatMap entT
/-- A tree's bytes. -/
def bytesB (l : List Ent) : Txt := if rightB l = true then entsT l l.length ++ [101, 110, 100, 10] else []
theorem entsT_zero (l : List Ent) : entsT l 0 = [116, 114, 101, 101, 10] := by simp [entsT]
theorem entsT_succ (l : List Ent) (k : Nat) (h : k < l.length) : entsT l (k + 1) = entsT l k ++ entT l[k] := by
  unfold entsT
  rw [List.take_succ_eq_append_getElem h, List.flatMap_append, ← List.append_assoc]
  simp
theorem kindW_length (k : Int) : (kindW k).length = 2 := by unfold kindW; split <;> rfl
theorem entryB_len {x : Ent} (h : entryB x = true) : x.path.length ≤ 120 ∧ x.data.length ≤ 2048 := by
  unfold entryB at h
  simp only [Bool.and_eq_true, decide_eq_true_eq] at h
  exact h.1.1.1
theorem entryB_kind {x : Ent} (h : entryB x = true) : x.kind = 3 ∨ x.kind = 1 := by
  unfold entryB at h
  simp only [Bool.and_eq_true, decide_eq_true_eq] at h
  by_cases h3 : x.kind = 3
  · exact .inl h3
  · have := h.2
    rw [if_neg h3] at this
    exact .inr (by simpa using this)
theorem rightB_entry {l : List Ent} (h : rightB l = true) : l.length ≤ 24 ∧ ∀ (i : Nat) (hi : i < l.length), fitsB l i l[i] = true := by
  unfold rightB at h
  rw [Bool.and_eq_true, decide_eq_true_eq] at h
  refine ⟨h.1, fun i hi => ?_⟩
  have h1 := List.all_eq_true.1 (show ((List.range l.length).all fun i => match l[i]? with | some x => fitsB l i x | none => true) = true from h.2) i (List.mem_range.2 hi)
  rw [List.getElem?_eq_getElem hi] at h1
  exact h1
theorem rightB_len {l : List Ent} (h : rightB l = true) : l.length ≤ 24 ∧ ∀ x ∈ l, x.path.length ≤ 120 ∧ x.data.length ≤ 2048 := by
  obtain ⟨h1, h2⟩ := rightB_entry h
  refine ⟨h1, fun x hx => ?_⟩
  obtain ⟨i, hi, rfl⟩ := List.mem_iff_getElem.1 hx
  have := h2 i hi
  unfold fitsB at this
  rw [Bool.and_eq_true] at this
  exact entryB_len this.1
theorem entT_length {x : Ent} (h : x.path.length ≤ 120 ∧ x.data.length ≤ 2048) : (entT x).length ≤ 4000 := by
  have := itoa_len x.data.length (by omega)
  unfold entT
  simp only [List.length_append, List.length_cons, List.length_nil, kindW_length]
  omega
theorem flat_length {α β : Type} (f : α → List β) (b : Nat) : ∀ l : List α, (∀ x ∈ l, (f x).length ≤ b) → (l.flatMap f).length ≤ l.length * b
  | [], _ => by simp
  | x :: l, h => by
    have h1 := h x (List.mem_cons_self ..)
    have h2 := flat_length f b l (fun y hy => h y (List.mem_cons_of_mem _ hy))
    rw [List.flatMap_cons, List.length_append, List.length_cons, Nat.succ_mul]
    omega
theorem entsT_length {l : List Ent} (h : l.length ≤ 24 ∧ ∀ x ∈ l, x.path.length ≤ 120 ∧ x.data.length ≤ 2048) (k : Nat) : (entsT l k).length ≤ 100000 := by
  have h1 := flat_length entT 4000 (l.take k) (fun x hx => entT_length (h.2 x (List.mem_of_mem_take hx)))
  have h2 : (l.take k).length ≤ 24 := by rw [List.length_take]; omega
  unfold entsT
  simp only [List.length_append, List.length_cons, List.length_nil]
  have := Nat.mul_le_mul_right 4000 h2
  omega

abbrev BufAt (b : Nat) (l : Txt) (w : World) : Prop := Lib.IsBuffer 85 5 b b (Lib.byteCells l) w
theorem bytes_cells (l : Txt) : Lib.byteCells l = l.map bv := rfl
theorem buf_str (b : Nat) (l t : Txt) (s : ByteArray) (hs : s.data.toList = t) (w : World) (h : BufAt b l w) (hlen : l.length + t.length ≤ 140737488355328) :
    Calls Tryz.prog 43 #[.pointer (some ⟨b, 0, none⟩), .string s] w fun e w' => e = .returned (.tuple #[.int .i64 s.size, .nilIface]) ∧ BufAt b (l ++ t) w' ∧ Below b w w' ∧ Lib.OthersKept 5 (some b) w w' := by
  have hsz : s.size = t.length := by rw [← hs]; rfl
  refine (Tryz.Buffer_WriteString_k b b (Lib.byteCells l) s w h (Nat.le_of_lt h.lt) (Lib.byteCells_one _) (by rw [Lib.byteCells_length]; omega)).mono ?_
  rintro e w' ⟨rfl, h1, h2, h3⟩
  refine ⟨rfl, ?_, h2, h3⟩
  rw [hs, ← Lib.byteCells_append] at h1
  exact h1
theorem buf_data (b B : Nat) (l t : Txt) (w : World) (h : BufAt b l w) {A : Option Addr} {n c : Nat} (hd : Slc w B 1 A n c (t.map bv)) (hB : B ≤ b) (hlen : l.length + t.length ≤ 140737488355328) :
    Calls Tryz.prog 44 #[.pointer (some ⟨b, 0, none⟩), .slice A n c] w fun e w' => e = .returned (.tuple #[.int .i64 n, .nilIface]) ∧ BufAt b (l ++ t) w' ∧ Below b w w' ∧ Lib.OthersKept 5 (some b) w w' := by
  have hn : t.length = n := by have := hd.len; simpa using this
  rcases Nat.eq_zero_or_pos n with h0 | h0
  · subst h0
    have ht : t = [] := List.eq_nil_of_length_eq_zero hn
    subst ht
    rw [List.append_nil]
    exact write_zero b b (Lib.byteCells l) A c w h (Nat.le_of_lt h.lt)
  · obtain ⟨g, off, rfl, hg, hc⟩ := hd.at_ h0
    refine (Tryz.Buffer_Write_any b b (Lib.byteCells l) (Lib.byteCells t) ⟨g, off, none⟩ n c w h (Nat.le_of_lt h.lt) (Lib.byteCells_one _) (by rw [Lib.byteCells_length]; exact hn) (show g ≠ b by omega) ?_ (Lib.byteCells_one _) (by rw [Lib.byteCells_length]; omega)).mono ?_
    · intro j v hv
      rw [addr_add]
      exact hc j v hv
    · rintro e w' ⟨rfl, h1, h2, h3⟩
      refine ⟨rfl, ?_, h2, h3⟩
      rw [← Lib.byteCells_append] at h1
      exact h1
theorem buf_below {b : Nat} {l : Txt} {w w' : World} (h : BufAt b l w) (hb : Below w.heap.size w w') : BufAt b l w' := Lib.IsBuffer.old h hb

def BytesPost (w : World) (t : Txt) : Ending → World → Prop := fun e w' => ∃ A n c, e = .returned (.slice A n c) ∧ w'.ownsRow w.heap.size 5 1 (.slice A n c) n (t.map bv) ∧ Below w.heap.size w w'
theorem own_mono {w : World} {b b' : Nat} {e : TypeId} {size : Nat} {v : Value} {n : Nat} {xs : List Value} (h : w.ownsRow b e size v n xs) (hb : b' ≤ b) : w.ownsRow b' e size v n xs :=
  ⟨h.1, h.2.imp id fun ⟨g, c, cur, e1, h1, h2⟩ => ⟨g, c, cur, e1, Nat.le_trans hb h1, h2⟩⟩
set_option maxRecDepth 100000 in
set_option maxHeartbeats 1000000 in
theorem bytes_any0 {w : World} {B : Nat} {A : Option Addr} {n c : Nat} {es : List EV} (h : EntsAt w B A n c es) (hB : B ≤ w.heap.size) (hp : ∀ e ∈ es, e.path.length ≤ 1000000000)
    (hit : rightB (es.map EV.ent) = true → ∀ e ∈ es, ItoaOk w (e.data.length : Int)) :
    Calls Tryz.prog 19 #[.slice A n c] w (BytesPost w (bytesB (es.map EV.ent))) := by
  have hrt := right_any h hB hp
  obtain ⟨l, hl⟩ : ∃ l, l = es.map EV.ent := ⟨_, rfl⟩
  have hll : l.length = n := by rw [hl, List.length_map, h.len]
  rw [← hl] at hrt hit ⊢
  cases hr : rightB l with
  | false =>
    have HG := Lib.hid (show bytesB l = [] by unfold bytesB; rw [if_neg (by rw [hr]; decide)])
    rw [hr] at hrt
    clear h hp hit hl hll hr
    go_enter Tryz.func19, Tryz.ntmps19
    go_wp2_with (go_at_call 20; refine hrt.mono ?_; clear hrt; rintro e1 w1 ⟨rfl, hb1⟩)
    go_ret
    exact ⟨none, 0, 0, rfl, by rw [HG.out]; exact World.ownsRow_nil _ _ _ _, hb1⟩
  | true =>
    have hlen := rightB_len hr
    have HT := Lib.hid (show bytesB l = entsT l l.length ++ [101, 110, 100, 10] by unfold bytesB; rw [if_pos hr])
    have HTL := Lib.hid (entsT_length hlen)
    have HEL := Lib.hid hlen
    have HI := Lib.hid (hit hr)
    have H := Lib.hid h
    have HL := Lib.hid hl
    have HLL := Lib.hid hll
    have hn62 : n ≤ 9223372036854775807 := by omega
    rw [hr] at hrt
    clear h hp hit hl hll hr hlen
    go_enter Tryz.func19, Tryz.ntmps19
    go_wp2_with (first
      | (go_at_call 20; refine hrt.mono ?_; clear hrt; rintro e1 w1 ⟨rfl, hb1⟩; have hw2 := buf_str w1.heap.size [] [116, 114, 101, 101, 10] ⟨#[116, 114, 101, 101, 10]⟩ rfl _ (Lib.fresh_isBuffer 85 5 w1) (by decide))
      | (go_at_call 43; refine hw2.mono ?_; clear hw2; rintro e2 w2 ⟨rfl, hd2, hb2, hk2⟩))
    have hbb2 : Below w1.heap.size w1 w2 := ((Below.refl _ w1).alloc (Nat.le_refl _) _).trans hb2
    have hlt2 : w1.heap.size < w2.heap.size := hd2.lt
    have HB1 := Lib.hid hb1
    clear hb2 hk2 hb1
    go_loopw [18] (fun i wr => ∃ (k : Nat), k ≤ n ∧ i = .int .i64 (k : Int) ∧ Aside (BufAt w1.heap.size (entsT l k) wr) ∧ Aside (Below w1.heap.size w1 wr)) (fun i _ => n - (intOf i).toNat)
    case atStart => exact ⟨0, Nat.zero_le _, rfl, by rw [entsT_zero]; exact hd2, hbb2⟩
    case round =>
      obtain ⟨k, hk, rfl, hd, hb⟩ := hrel
      by_cases hkn : k < n
      · have hbw : Below w.heap.size w wr := HB1.out.trans (hb.out.mono HB1.out.size)
        obtain ⟨b, off, rfl, hbB, hkl, c0, c1, c2, hS⟩ := (H.out.below (hbw.mono hB)).at_ hkn
        have hkl' : k < l.length := by rw [HLL.out]; exact hkn
        have hlk : l[k] = es[k].ent := by have := HL.out; subst this; exact ents_get hkl hkl'
        have hIo := HI.out _ (List.getElem_mem hkl)
        have hle := HEL.out.2 _ (List.getElem_mem hkl')
        rw [hlk] at hle
        have HSU := Lib.hid ((entsT_succ l k hkl').trans (by rw [hlk]))
        generalize es[k] = e at *
        obtain ⟨path, kind, data, A', m, c'⟩ := e
        simp only [EV.ent] at c0 c1 c2 hS hIo hle HSU
        have hdl : data.length = m := by have := hS.len; simpa using this
        have hm62 : m ≤ 9223372036854775807 := by omega
        rw [hdl] at hIo
        have hbs : w1.heap.size ≤ wr.heap.size := hb.out.size
        have hbl : b < wr.heap.size := Nat.lt_of_lt_of_le hbB (Nat.le_trans hB (Nat.le_trans HB1.out.size hbs))
        obtain ⟨Wg, hWg⟩ : ∃ Wg, Wg = wr.alloc (.cells #[.string ⟨path.toArray⟩, .int .i64 kind, .slice A' m c'] 73) := ⟨_, rfl⟩
        have hbg : Below wr.heap.size wr Wg := by rw [hWg]; exact (Below.refl _ wr).alloc (Nat.le_refl _) _
        have hGb : Blk Wg wr.heap.size 73 #[.string ⟨path.toArray⟩, .int .i64 kind, .slice A' m c'] := by rw [hWg]; exact Blk.new _ _ _
        have HK := Lib.hid (fun (W' : World) (h : Below Wg.heap.size Wg W') => show W'.cell? ⟨wr.heap.size, 0, none⟩ = some (.string ⟨path.toArray⟩) ∧ W'.cell? ⟨wr.heap.size, 2, none⟩ = some (.slice A' m c') from ⟨(hGb.below h hGb.lt).cell 0, (hGb.below h hGb.lt).cell 2⟩)
        have k1 := hGb.cell 1
        have k0 := hGb.cell 0
        simp only [List.getElem?_toArray, List.getElem?_cons_zero, List.getElem?_cons_succ] at k0 k1
        have HGB := Lib.hid hGb
        have hdr : Below Wg.heap.size Wg Wg.drew := (Below.refl Wg.heap.size Wg).drew
        have HWW := Lib.hid (hbw.trans (hbg.mono hbw.size))
        have HBG := Lib.hid hbg
        have HBS := Lib.hid (show w1.heap.size ≤ wr.heap.size ∧ w1.heap.size ≠ wr.heap.size from ⟨hbs, Nat.ne_of_lt hd.out.lt⟩)
        have HBW := Lib.hid (show B ≤ w1.heap.size from Nat.le_trans hB HB1.out.size)
        have HSL := Lib.hid hS
        have HIO := Lib.hid hIo
        have HLE := Lib.hid hle
        have HDL := Lib.hid hdl
        have HWG := Lib.hid hWg
        have hq1 : ¬ 9223372036854775807 < 2 + path.length := by have := HLE.out; omega
        have hq2 : ¬ 9223372036854775807 < 2 + path.length + 1 := by have := HLE.out; omega
        have hq3 : ¬ 9223372036854775807 < 2 + path.length + 1 + (Lib.itoa (m : Int)).length := by have := HLE.out; have := HIO.out.short; omega
        have hq4 : ¬ 9223372036854775807 < 2 + path.length + 1 + (Lib.itoa (m : Int)).length + 1 := by have := HLE.out; have := HIO.out.short; omega
        clear hbg hGb hbw hS hIo hle hWg hdl hbs
        by_cases hkind : kind = 3
        · have hk3 : (kind == 3) = true := by simpa using hkind
          have hkw : kindW kind = [108, 32] := by unfold kindW; simp [hkind]
          have HKW := Lib.hid hkw
          clear hkw hkind
          go_wp2_with (fail)
          rw [← HWG.out]
          clear HWG
          go_region_held3 (fun W' => W'.cell? ⟨wr.heap.size, 0, none⟩ = some (.string ⟨path.toArray⟩) ∧ W'.cell? ⟨wr.heap.size, 2, none⟩ = some (.slice A' m c')) (first | exact HK.out _ (by assumption) | exact HH.out.2) (first
            | (go_at_call 27; refine (HIO.out.run _ (HWW.out.trans (hdr.mono HWW.out.size))).mono ?_; rintro e5 w5 ⟨rfl, hb5⟩; have hbd5 := hdr.trans hb5; have hws := buf_str w1.heap.size (entsT l k) ([108, 32] ++ path ++ [32] ++ Lib.itoa (m : Int) ++ [10]) (⟨#[108, 32]⟩ ++ ⟨path.toArray⟩ ++ ⟨#[32]⟩ ++ ⟨(Lib.itoa (m : Int)).toArray⟩ ++ ⟨#[10]⟩) (by simp) w5 (buf_below hd.out (HBG.out.trans (hbd5.mono HBG.out.size))) (by (have h1 := HTL.out k; have h2 := HIO.out.short; have h3 := HLE.out; simp; omega)))
            | (go_at_call 43; refine hws.mono ?_; clear hws; rintro e6 w6 ⟨rfl, hd6, hb6, hk6⟩; have hG6 := blk_others (HGB.out.below hbd5 HGB.out.lt) hk6 (HBS.out.2.symm) (by decide); have hB6 := (HBG.out.trans (hbd5.mono HBG.out.size)).mono HBS.out.1 |>.trans hb6; have HH := Lib.hid (And.intro (And.intro hd6 hB6) (And.intro (hG6.cell 0) (hG6.cell 2)))))
          all_goals obtain ⟨hh1, hh2⟩ := HH.out.1
          all_goals have hx2 := HH.out.2.2
          all_goals have hwd := buf_data w1.heap.size B _ data _ hh1 (HSL.out.below (hh2.mono HBW.out)) HBW.out (by have h1 := HTL.out k; have h2 := HIO.out.short; have h3 := HLE.out; simp; omega)
          all_goals have HH2 := Lib.hid hh2
          all_goals clear hh1 hh2
          all_goals go_wp2_with (first
            | (go_at_call 44; refine hwd.mono ?_; clear hwd; rintro e7 w7 ⟨rfl, hd7, hb7, hk7⟩; have hwn := buf_str w1.heap.size _ [10] ⟨#[10]⟩ rfl w7 hd7 (by have h1 := HTL.out k; have h2 := HIO.out.short; have h3 := HLE.out; simp; omega); have HB7 := Lib.hid (HH2.out.trans hb7))
            | (go_at_call 43; refine hwn.mono ?_; clear hwn; rintro e8 w8 ⟨rfl, hd8, hb8, hk8⟩))
          all_goals refine ⟨⟨k + 1, by omega, by go_num, ?_, hb.out.trans (HB7.out.trans hb8)⟩, by simp [intOf]; omega⟩
          all_goals rw [HSU.out]
          all_goals have he : entsT l k ++ entT ⟨path, kind, data⟩ = entsT l k ++ ([108, 32] ++ path ++ [32] ++ Lib.itoa (m : Int) ++ [10]) ++ data ++ [10] := by unfold entT; rw [HKW.out, HDL.out]; simp
          all_goals rw [he]
          all_goals exact hd8
        · have hk3 : (kind == 3) = false := by simpa using hkind
          have hkw : kindW kind = [102, 32] := by unfold kindW; simp [hkind]
          have HKW := Lib.hid hkw
          clear hkw hkind
          go_wp2_with (fail)
          rw [← HWG.out]
          clear HWG
          go_region_held3 (fun W' => W'.cell? ⟨wr.heap.size, 0, none⟩ = some (.string ⟨path.toArray⟩) ∧ W'.cell? ⟨wr.heap.size, 2, none⟩ = some (.slice A' m c')) (first | exact HK.out _ (by assumption) | exact HH.out.2) (first
            | (go_at_call 27; refine (HIO.out.run _ (HWW.out.trans (hdr.mono HWW.out.size))).mono ?_; rintro e5 w5 ⟨rfl, hb5⟩; have hbd5 := hdr.trans hb5; have hws := buf_str w1.heap.size (entsT l k) ([102, 32] ++ path ++ [32] ++ Lib.itoa (m : Int) ++ [10]) (⟨#[102, 32]⟩ ++ ⟨path.toArray⟩ ++ ⟨#[32]⟩ ++ ⟨(Lib.itoa (m : Int)).toArray⟩ ++ ⟨#[10]⟩) (by simp) w5 (buf_below hd.out (HBG.out.trans (hbd5.mono HBG.out.size))) (by (have h1 := HTL.out k; have h2 := HIO.out.short; have h3 := HLE.out; simp; omega)))
            | (go_at_call 43; refine hws.mono ?_; clear hws; rintro e6 w6 ⟨rfl, hd6, hb6, hk6⟩; have hG6 := blk_others (HGB.out.below hbd5 HGB.out.lt) hk6 (HBS.out.2.symm) (by decide); have hB6 := (HBG.out.trans (hbd5.mono HBG.out.size)).mono HBS.out.1 |>.trans hb6; have HH := Lib.hid (And.intro (And.intro hd6 hB6) (And.intro (hG6.cell 0) (hG6.cell 2)))))
          all_goals obtain ⟨hh1, hh2⟩ := HH.out.1
          all_goals have hx2 := HH.out.2.2
          all_goals have hwd := buf_data w1.heap.size B _ data _ hh1 (HSL.out.below (hh2.mono HBW.out)) HBW.out (by have h1 := HTL.out k; have h2 := HIO.out.short; have h3 := HLE.out; simp; omega)
          all_goals have HH2 := Lib.hid hh2
          all_goals clear hh1 hh2
          all_goals go_wp2_with (first
            | (go_at_call 44; refine hwd.mono ?_; clear hwd; rintro e7 w7 ⟨rfl, hd7, hb7, hk7⟩; have hwn := buf_str w1.heap.size _ [10] ⟨#[10]⟩ rfl w7 hd7 (by have h1 := HTL.out k; have h2 := HIO.out.short; have h3 := HLE.out; simp; omega); have HB7 := Lib.hid (HH2.out.trans hb7))
            | (go_at_call 43; refine hwn.mono ?_; clear hwn; rintro e8 w8 ⟨rfl, hd8, hb8, hk8⟩))
          all_goals refine ⟨⟨k + 1, by omega, by go_num, ?_, hb.out.trans (HB7.out.trans hb8)⟩, by simp [intOf]; omega⟩
          all_goals rw [HSU.out]
          all_goals have he : entsT l k ++ entT ⟨path, kind, data⟩ = entsT l k ++ ([102, 32] ++ path ++ [32] ++ Lib.itoa (m : Int) ++ [10]) ++ data ++ [10] := by unfold entT; rw [HKW.out, HDL.out]; simp
          all_goals rw [he]
          all_goals exact hd8
      · obtain rfl : k = n := by omega
        have hwe := buf_str w1.heap.size (entsT l k) [101, 110, 100, 10] ⟨#[101, 110, 100, 10]⟩ rfl wr hd.out (by have h1 := HTL.out k; simp; omega)
        go_wp2_with (first
          | (go_at_call 43; refine hwe.mono ?_; clear hwe; rintro e6 w6 ⟨rfl, hd6, hb6, hk6⟩; have HB6 := Lib.hid (hb.out.trans hb6); have hby := Tryz.Buffer_Bytes w1.heap.size w1.heap.size _ w6 hd6)
          | (go_at_call 45; refine hby.mono ?_; clear hby; rintro e7 w7 ⟨v7, rfl, ho7, nn, rfl⟩))
        go_ret
        obtain ⟨A7, c7, rfl, _⟩ := own_slc ho7
        rw [HT.out, HLL.out]
        have hl7 : (Lib.byteCells (entsT l k ++ [101, 110, 100, 10])).length = (entsT l k ++ [101, 110, 100, 10]).length := Lib.byteCells_length _
        exact ⟨A7, _, c7, rfl, own_mono ho7 HB1.out.size, (HB1.out.trans (HB6.out.mono HB1.out.size)).trans (below_drewN _ nn)⟩
theorem bytes_any {w : World} {B : Nat} {A : Option Addr} {n c : Nat} {es : List EV} (h : EntsAt w B A n c es) (hB : B ≤ w.heap.size) (hp : ∀ e ∈ es, e.path.length ≤ 1000000000) (hsm : ∀ e ∈ es, ∃ a, e.A = some a ∧ a.block < B)
    (hit : rightB (es.map EV.ent) = true → ∀ e ∈ es, ItoaOk w (e.data.length : Int)) :
    Calls Tryz.prog 19 #[.slice A n c] w (BytesPost w (bytesB (es.map EV.ent))) := bytes_any0 h hB hp hit
end Go.Proofs.YtdhlklidenfbeaaGreatDoor
