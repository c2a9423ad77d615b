/- The reference's Text (bootjackref21). -/
import Derived.Test.YtibndaianhlcaaaGreatDoorPart33
import Derived.Test.YtibndaianhlcaaaGreatDoorPart29
namespace Go.Proofs.YtibndaianhlcaaaGreatDoor
open Go.RowKit Go.Sort Go.Shelf
open Go.WideShapes (bytes_inj)
set_option linter.unusedVariables false
set_option linter.unusedSimpArgs false

def RefTextPost (w : World) (l : List AV) : Ending → World → Prop := fun e w' => ∃ b : ByteArray, e = .returned (.tuple #[.string b, .bool (textA decI (l.map AV.act)).isSome]) ∧ b.data.toList = (textA decI (l.map AV.act)).getD [] ∧ Below w.heap.size w w'
def wordsR : Array Value := #[.string ⟨#[]⟩, .string ⟨#[115, 116, 111, 112, 32]⟩, .string ⟨#[114, 101, 109, 111, 118, 101, 32]⟩, .string ⟨#[100, 114, 111, 112, 32]⟩, .string ⟨#[]⟩, .string ⟨#[117, 115, 101, 114, 32]⟩, .string ⟨#[115, 116, 97, 114, 116, 32]⟩]
theorem textA_some {l : List AV} (hn : l.length ≤ 128) (h : ∀ a ∈ l, mayA a.act = true) : (textA decI (l.map AV.act)).isSome = true := by
  unfold textA
  rw [if_pos ⟨by simpa using hn, by rw [List.all_map, List.all_eq_true]; exact h⟩]
  rfl
theorem textA_bad {l : List AV} {a : AV} (ha : a ∈ l) (h : mayA a.act = false) : (textA decI (l.map AV.act)).isSome = false := by
  unfold textA
  rw [if_neg]
  · rfl
  · rintro ⟨_, h9⟩
    rw [List.all_map, List.all_eq_true] at h9
    have := h9 a ha
    simp only [Function.comp_apply] at this
    rw [h] at this
    cases this
theorem textA_over {l : List AV} (h : 128 < l.length) : (textA decI (l.map AV.act)).isSome = false := by
  unfold textA
  rw [if_neg]
  · rfl
  · rintro ⟨h9, _⟩
    rw [List.length_map] at h9
    omega
theorem may_same {a : ActP} (h : mayA a = true) (h4 : a.kind = 4) : a.name = a.file.path := by
  rcases may_shape h with ⟨hk, _, _⟩ | ⟨_, e⟩ | ⟨_, e⟩ | ⟨_, e⟩
  · omega
  · have := congrArg ActP.kind e; simp only at this; omega
  · exact congrArg ActP.name e
  · have := congrArg ActP.kind e; simp only at this; omega
/-- The word of a step without a file. -/
def wordK (k : Int) : Txt := if k = 1 then wStop else if k = 2 then wRemove else if k = 3 then wDrop else wUser
theorem conv_text {w : World} {B : Nat} {A : Option Addr} {n c : Nat} {d : Txt} (hS : Slc w B 1 A n c (d.map bv)) : (convert 33 9 (.slice A n c)).run Tryz.prog w = .ok (.string ⟨d.toArray⟩) w :=
  convert_bytes (P := Tryz.prog) (src := 33) Tryz.underlying33 Tryz.underlying5 hS 9 Tryz.underlying9
set_option maxRecDepth 100000 in
set_option maxHeartbeats 8000000 in
theorem refText21_any {w : World} {B : Nat} {A : Option Addr} {n c : Nat} {l : List AV} (h : ActsAt w B A n c l) (hB : B ≤ w.heap.size) (hs : ∀ a ∈ l, SmallQ a) :
    Calls Tryz.prog 32 #[.slice A n c] w (RefTextPost w l) := by
  have hcm : n ≤ 9223372036854775807 := Nat.le_trans h.slc.le (Nat.le_trans h.slc.cmax (by decide))
  by_cases hn : 128 < n
  · have hT := textA_long (l := l) (by rw [h.len]; exact hn)
    have hT2 := textA_over (l := l) (by rw [h.len]; exact hn)
    have hn' : ((128 : Int) < (n : Int)) := by omega
    have HT := Lib.hid (And.intro hT hT2)
    clear h hB hs hT hT2
    go_enter Tryz.func32, Tryz.ntmps32
    go_wp2_with (fail)
    go_ret2
    exact ⟨⟨#[]⟩, by rw [HT.out.2]; rfl, by rw [HT.out.1], Below.refl _ _⟩
  have hn128 : n ≤ 128 := by omega
  have hW0 := Blk.new w 9 wordsR
  have HB0 := Lib.hid (bel_new w (.cells wordsR 9))
  have HW0 := Lib.hid hW0
  have H := Lib.hid h
  have HB := Lib.hid hB
  have HS := Lib.hid hs
  have HL := Lib.hid h.len
  unfold wordsR at HB0 HW0
  clear h hB hs hcm hn hW0
  go_enter Tryz.func32, Tryz.ntmps32
  go_wp2_with (fail)
  go_loopw [5, 6] (fun s i wr => ∃ (k : Nat) (bb : ByteArray), k ≤ n ∧ i = .int .i64 (k : Int) ∧ s = .string bb ∧ Aside (∀ a ∈ l.take k, mayA a.act = true) ∧ Aside (bb.data.toList = scriptQ (l.take k)) ∧ Aside (Below w.heap.size w wr) ∧ Aside (Blk wr w.heap.size 9 wordsR)) (fun _ i _ => n - (intOf i).toNat)
  case atStart => exact ⟨0, _, Nat.zero_le _, rfl, rfl, fun a ha => by simp at ha, rfl, HB0.out, HW0.out⟩
  case round =>
    obtain ⟨k, bb, hk, rfl, rfl, hall, hbb, hb, hwd⟩ := hrel
    have hbs : bb.size ≤ 768001280000 := by
      have h9 := scriptQ_short fun a ha => lineQ_short (H.out.acts a (List.mem_of_mem_take ha)) (HS.out a (List.mem_of_mem_take ha)) (hall.out a ha)
      have h8 := congrArg List.length hbb.out
      rw [bsz_list] at h8
      rw [List.length_take] at h9
      omega
    by_cases hlt : k < n
    · obtain ⟨b, off, rfl, hbB, hl, hcs⟩ := (H.out.below (hb.out.mono HB.out)).cells hlt
      have ha0 := H.out.acts _ (List.getElem_mem hl)
      have hak := (H.out.acts _ (List.getElem_mem hl)).below (hb.out.mono HB.out)
      have hsk := HS.out _ (List.getElem_mem hl)
      have HSC := Lib.hid (scriptQ_succ l hl)
      have HAL := Lib.hid (show mayA l[k].act = true → ∀ a ∈ l.take (k + 1), mayA a.act = true from fun h9 a ha => by
        rw [List.take_succ_eq_append_getElem hl] at ha
        rcases List.mem_append.1 ha with ha | ha
        · exact hall.out a ha
        · rw [List.mem_singleton.1 ha]; exact h9)
      have HNO := Lib.hid (fun h9 : mayA l[k].act = false => And.intro (textA_not (List.getElem_mem hl) h9) (textA_bad (List.getElem_mem hl) h9))
      generalize l[k] = a at *
      have hwb : B ≤ wr.heap.size := Nat.le_trans HB.out hb.out.size
      obtain ⟨W1, hW1⟩ : ∃ W1, W1 = wr.alloc (.cells (avArr a) 61) := ⟨_, rfl⟩
      have hb1 : Below wr.heap.size wr W1 := by rw [hW1]; exact bel_new _ _
      have hG1 : Blk W1 wr.heap.size 61 (avArr a) := by rw [hW1]; exact Blk.new _ _ _
      have hmay := refMay21_any (w := W1) a (hak.below (hb1.mono hwb)) (Nat.le_trans hwb hb1.size) hsk
      have HBW := Lib.hid hb.out
      have HB1 := Lib.hid hb1
      have HW1 := Lib.hid hW1
      cases hm : mayA a.act with
      | false =>
        rw [hm] at hmay
        have HNA := Lib.hid (HNO.out hm)
        obtain ⟨kind, name, ⟨p, fk, fd, fA, fn, fc⟩, u⟩ := a
        have c0 : wr.cell? ⟨b, off + k * 9, none⟩ = some (.int .i64 kind) := hcs 0 _ rfl
        have c1 : wr.cell? ⟨b, off + k * 9 + 1, none⟩ = some (.string ⟨name.toArray⟩) := hcs 1 _ rfl
        have c2 : wr.cell? ⟨b, off + k * 9 + 2, none⟩ = some (.string ⟨p.toArray⟩) := hcs 2 _ rfl
        have c3 : wr.cell? ⟨b, off + k * 9 + 3, none⟩ = some (.int .i64 fk) := hcs 3 _ rfl
        have c4 : wr.cell? ⟨b, off + k * 9 + 4, none⟩ = some (.slice fA fn fc) := hcs 4 _ rfl
        have c5 : wr.cell? ⟨b, off + k * 9 + 5, none⟩ = some (.string ⟨u.name.toArray⟩) := hcs 5 _ rfl
        have c6 : wr.cell? ⟨b, off + k * 9 + 6, none⟩ = some (.string ⟨u.start.toArray⟩) := hcs 6 _ rfl
        have c7 : wr.cell? ⟨b, off + k * 9 + 7, none⟩ = some (.slice u.A u.n u.c) := hcs 7 _ rfl
        have c8 : wr.cell? ⟨b, off + k * 9 + 8, none⟩ = some (.slice u.A2 u.n2 u.c2) := hcs 8 _ rfl
        rw [hW1] at hmay
        unfold avArr at hmay
        simp only at hmay
        clear hcs hak ha0 hG1 hW1 hb1 hb hm hsk hall hbb hwd
        go_wp2_with (first
          | (go_at_call 75; refine hmay.mono ?_; clear hmay; rintro e2 w2 ⟨rfl, hb2⟩; have HB2 := Lib.hid (show Below W1.heap.size W1 w2 by rw [HW1.out]; exact hb2); clear hb2))
        go_ret2
        refine ⟨⟨#[]⟩, by rw [HNA.out.2]; rfl, by rw [HNA.out.1], ?_⟩
        exact (HBW.out.trans (HB1.out.mono HBW.out.size)).trans (HB2.out.mono (Nat.le_trans HBW.out.size HB1.out.size))
      | true =>
        rw [hm] at hmay
        have HG := Lib.hid (fun (W : World) (hW : Below W1.heap.size W1 W) => hG1.below hW hG1.lt)
        have HWR := Lib.hid (fun (W : World) (hW : Below W1.heap.size W1 W) => (hwd.out.below hb1 hwd.out.lt).below hW (Nat.lt_of_lt_of_le hwd.out.lt hb1.size))
        have HCH := Lib.hid (fun (W : World) (hW : Below W1.heap.size W1 W) => (hb.out.trans (hb1.mono hb.out.size)).trans (hW.mono (Nat.le_trans hb.out.size hb1.size)))
        have HA1 := Lib.hid (HAL.out hm)
        have HDT := Lib.hid (fun (W : World) (hW : Below w.heap.size w W) => ha0.data.below (hW.mono HB.out))
        have HFIN := Lib.hid (show scriptQ (l.take (k + 1)) = bb.data.toList ++ (headA decI a.act ++ 10 :: bodyA a.act) by rw [HSC.out, hbb.out]; rfl)
        have HLN := Lib.hid (fun (h6 : a.kind = 6) (W : World) (hW : Below w.heap.size w W) => lines21W_any (w := W) a.unit (ha0.req.below (hW.mono HB.out)) (ha0.aft.below (hW.mono HB.out)) (Nat.le_trans HB.out hW.size) (mayU_wide (w := W) (B := B) (may_unit hm h6) hsk.unit.n hsk.unit.n2 (by have := ha0.req.len; simpa using this) (by have := ha0.aft.len; simpa using this)))
        have hms := may_short hm
        have hbq := bodyQ_short ha0 hsk hm
        have hdl : a.file.data.length = a.file.n := by have := ha0.data.len; simpa using this
        have hkk := may_kinds hm
        have hf4 := fun h4 => may_file hm h4
        have hs4 := fun h4 => may_same hm h4
        by_cases hk4 : a.kind = 4
        · have HHB := Lib.hid (show headA decI a.act ++ 10 :: bodyA a.act = (wFile ++ [32]) ++ (if a.file.kind = 3 then [108, 32] else [102, 32]) ++ a.name ++ [32] ++ decI a.file.n ++ [10] ++ a.file.data by
            have e1 := hs4 hk4
            have e2 : a.name = a.file.path := e1
            have e3 : bodyA a.act = a.file.data := by unfold bodyA; rw [if_pos (show a.act.kind = 4 from hk4)]; rfl
            have e4 : headA decI a.act = wFile ++ 32 :: (if a.file.kind = 3 then [108, 32] else [102, 32]) ++ a.file.path ++ 32 :: decI a.file.n := by
              unfold headA
              have k4 : a.act.kind = 4 := hk4
              rw [k4, if_neg (by decide), if_neg (by decide), if_neg (by decide), if_neg (by decide), if_neg (by decide), ← hdl]
              rfl
            rw [e3, e4, e2]
            split <;> simp)
          have hnl : a.name.length ≤ 120 := hms.1
          have hfn : a.file.n ≤ 2048 := by have := hf4 hk4; have h9 : a.act.file.data.length = a.file.data.length := rfl; omega
          have hdl2 : (decI a.file.n).length ≤ 1000 := itoa_len _ (by omega)
          have HDE := Lib.hid (fun W => decimal21_any a.file.n W (by omega))
          clear hms hbq hf4 hs4 hkk HLN
          obtain ⟨kind, name, ⟨p, fk, fd, fA, fn, fc⟩, u⟩ := a
          simp only at hk4 hnl hfn hdl2 hdl HDE
          subst hk4
          have c0 : wr.cell? ⟨b, off + k * 9, none⟩ = some (.int .i64 4) := hcs 0 _ rfl
          have c1 : wr.cell? ⟨b, off + k * 9 + 1, none⟩ = some (.string ⟨name.toArray⟩) := hcs 1 _ rfl
          have c2 : wr.cell? ⟨b, off + k * 9 + 2, none⟩ = some (.string ⟨p.toArray⟩) := hcs 2 _ rfl
          have c3 : wr.cell? ⟨b, off + k * 9 + 3, none⟩ = some (.int .i64 fk) := hcs 3 _ rfl
          have c4 : wr.cell? ⟨b, off + k * 9 + 4, none⟩ = some (.slice fA fn fc) := hcs 4 _ rfl
          have c5 : wr.cell? ⟨b, off + k * 9 + 5, none⟩ = some (.string ⟨u.name.toArray⟩) := hcs 5 _ rfl
          have c6 : wr.cell? ⟨b, off + k * 9 + 6, none⟩ = some (.string ⟨u.start.toArray⟩) := hcs 6 _ rfl
          have c7 : wr.cell? ⟨b, off + k * 9 + 7, none⟩ = some (.slice u.A u.n u.c) := hcs 7 _ rfl
          have c8 : wr.cell? ⟨b, off + k * 9 + 8, none⟩ = some (.slice u.A2 u.n2 u.c2) := hcs 8 _ rfl
          obtain ⟨ds, hds⟩ : ∃ ds, ds = decI fn := ⟨_, rfl⟩
          rw [show Lib.itoa (fn : Int) = ds from hds.symm] at HDE
          rw [← hds] at hdl2
          have s1 : (⟨name.toArray⟩ : ByteArray).size = name.length := bsz_mk name
          have s2 : (⟨ds.toArray⟩ : ByteArray).size = ds.length := bsz_mk _
          have s3 : (⟨fd.toArray⟩ : ByteArray).size = fd.length := bsz_mk _
          have q1 : ¬ 9223372036854775807 < bb.size + 5 := by omega
          have q2 : ¬ 9223372036854775807 < bb.size + 5 + 2 := by omega
          have q3 : ¬ 9223372036854775807 < bb.size + 5 + 2 + name.length := by omega
          have q4 : ¬ 9223372036854775807 < bb.size + 5 + 2 + name.length + 1 := by omega
          have q5 : ¬ 9223372036854775807 < bb.size + 5 + 2 + name.length + 1 + ds.length := by omega
          have q6 : ¬ 9223372036854775807 < bb.size + 5 + 2 + name.length + 1 + ds.length + 1 := by omega
          have q7 : ¬ 9223372036854775807 < bb.size + 5 + 2 + name.length + 1 + ds.length + 1 + fd.length := by omega
          rw [hW1] at hmay
          unfold avArr at hmay HG
          simp only at hmay HG HHB HDT
          rw [← hds] at HHB
          have HKS := Lib.hid (fun (W : World) (hW : Below W1.heap.size W1 W) => show W.cell? ⟨wr.heap.size, 1, none⟩ = some (.string ⟨name.toArray⟩) ∧ W.cell? ⟨wr.heap.size, 4, none⟩ = some (.slice fA fn fc) ∧ (convert 33 9 (.slice fA fn fc)).run Tryz.prog W = .ok (.string ⟨fd.toArray⟩) W from ⟨(HG.out W hW).cell 1, (HG.out W hW).cell 4, conv_text (HDT.out W (HCH.out W hW))⟩)
          clear hcs hak ha0 hG1 hW1 hb1 hb hm hsk hall hbb hwd hds
          by_cases h3 : fk = 3
          · have hkt : (fk == 3) = true := by rw [beq_iff_eq]; exact h3
            have HX := Lib.hid (HHB.out.trans (by rw [if_pos h3]))
            clear h3
            go_upto_region 16 with (first
              | (go_at_call 75; refine hmay.mono ?_; clear hmay; rintro e2 w2 ⟨rfl, hb2⟩; have hb2' := (show Below W1.heap.size W1 w2 by rw [HW1.out]; exact hb2); obtain ⟨y0, y1, y2, y3, y4, y5, y6, y7, y8⟩ := nine_of (HG.out w2 hb2'); have hwr := HWR.out w2 hb2'; have r1 := hwr.cell 1; have r2 := hwr.cell 2; have r3 := hwr.cell 3; have r5 := hwr.cell 5; have r6 := hwr.cell 6; unfold wordsR at r1 r2 r3 r5 r6; simp only [List.getElem?_toArray, List.getElem?_cons_zero, List.getElem?_cons_succ] at r1 r2 r3 r5 r6; have HB2 := Lib.hid hb2'; have hG0 := HKS.out _ (hb2'.trans (below_drewN w2 1)); have hdec := HDE.out (w2.drewN 1); clear hb2 hb2' hwr))
            go_region_held (fun W' => W'.cell? ⟨wr.heap.size, 1, none⟩ = some (.string ⟨name.toArray⟩) ∧ W'.cell? ⟨wr.heap.size, 4, none⟩ = some (.slice fA fn fc) ∧ (convert 33 9 (.slice fA fn fc)).run Tryz.prog W' = .ok (.string ⟨fd.toArray⟩) W') (first | exact HC3.out | exact hG0) (first
              | (go_at_call 76; refine hdec.mono ?_; clear hdec; rintro e3 w3 ⟨rfl, hb3⟩; have HB3 := Lib.hid ((HB2.out.trans (below_drewN _ 1)).trans (hb3.mono (HB2.out.trans (below_drewN _ 1)).size)); have HC3 := Lib.hid (HKS.out _ HB3.out); clear hb3))
            all_goals go_wp2_with (fail)
            all_goals exact ⟨⟨k + 1, _, by omega, by go_num, rfl, HA1.out, (show (_ : Txt) = _ by rw [HFIN.out, HX.out]; simp [wFile]), HCH.out _ HB3.out, HWR.out _ HB3.out⟩, by simp [intOf]; omega⟩
          · have hkt : (fk == 3) = false := by rw [beq_eq_false_iff_ne]; exact h3
            have HX := Lib.hid (HHB.out.trans (by rw [if_neg h3]))
            clear h3
            go_upto_region 16 with (first
              | (go_at_call 75; refine hmay.mono ?_; clear hmay; rintro e2 w2 ⟨rfl, hb2⟩; have hb2' := (show Below W1.heap.size W1 w2 by rw [HW1.out]; exact hb2); obtain ⟨y0, y1, y2, y3, y4, y5, y6, y7, y8⟩ := nine_of (HG.out w2 hb2'); have hwr := HWR.out w2 hb2'; have r1 := hwr.cell 1; have r2 := hwr.cell 2; have r3 := hwr.cell 3; have r5 := hwr.cell 5; have r6 := hwr.cell 6; unfold wordsR at r1 r2 r3 r5 r6; simp only [List.getElem?_toArray, List.getElem?_cons_zero, List.getElem?_cons_succ] at r1 r2 r3 r5 r6; have HB2 := Lib.hid hb2'; have hG0 := HKS.out _ (hb2'.trans (below_drewN w2 1)); have hdec := HDE.out (w2.drewN 1); clear hb2 hb2' hwr))
            go_region_held (fun W' => W'.cell? ⟨wr.heap.size, 1, none⟩ = some (.string ⟨name.toArray⟩) ∧ W'.cell? ⟨wr.heap.size, 4, none⟩ = some (.slice fA fn fc) ∧ (convert 33 9 (.slice fA fn fc)).run Tryz.prog W' = .ok (.string ⟨fd.toArray⟩) W') (first | exact HC3.out | exact hG0) (first
              | (go_at_call 76; refine hdec.mono ?_; clear hdec; rintro e3 w3 ⟨rfl, hb3⟩; have HB3 := Lib.hid ((HB2.out.trans (below_drewN _ 1)).trans (hb3.mono (HB2.out.trans (below_drewN _ 1)).size)); have HC3 := Lib.hid (HKS.out _ HB3.out); clear hb3))
            all_goals go_wp2_with (fail)
            all_goals exact ⟨⟨k + 1, _, by omega, by go_num, rfl, HA1.out, (show (_ : Txt) = _ by rw [HFIN.out, HX.out]; simp [wFile]), HCH.out _ HB3.out, HWR.out _ HB3.out⟩, by simp [intOf]; omega⟩
        by_cases hk6 : a.kind = 6
        · have HUL := Lib.hid (HLN.out hk6)
          have HHB := Lib.hid (show headA decI a.act ++ 10 :: bodyA a.act = (wStart ++ [32]) ++ a.name ++ [10] ++ linesU a.unit.srv by
            obtain ⟨kind, name, f, u⟩ := a
            simp only at hk6
            subst hk6
            simp [headA, bodyA, AV.act])
          have hnl : a.name.length ≤ 120 := hms.1
          have hbl : (linesU a.unit.srv).length ≤ 6000000000 := by
            have : bodyA a.act = linesU a.unit.srv := by unfold bodyA; rw [if_neg (show ¬ a.act.kind = 4 from hk4), if_pos (show a.act.kind = 6 from hk6)]; rfl
            rw [this] at hbq
            exact hbq
          clear hms hbq hdl hf4 hs4 hkk hk4 HLN HDT
          obtain ⟨kind, name, ⟨p, fk, fd, fA, fn, fc⟩, u⟩ := a
          simp only at hk6 hnl hbl
          subst hk6
          have c0 : wr.cell? ⟨b, off + k * 9, none⟩ = some (.int .i64 6) := hcs 0 _ rfl
          have c1 : wr.cell? ⟨b, off + k * 9 + 1, none⟩ = some (.string ⟨name.toArray⟩) := hcs 1 _ rfl
          have c2 : wr.cell? ⟨b, off + k * 9 + 2, none⟩ = some (.string ⟨p.toArray⟩) := hcs 2 _ rfl
          have c3 : wr.cell? ⟨b, off + k * 9 + 3, none⟩ = some (.int .i64 fk) := hcs 3 _ rfl
          have c4 : wr.cell? ⟨b, off + k * 9 + 4, none⟩ = some (.slice fA fn fc) := hcs 4 _ rfl
          have c5 : wr.cell? ⟨b, off + k * 9 + 5, none⟩ = some (.string ⟨u.name.toArray⟩) := hcs 5 _ rfl
          have c6 : wr.cell? ⟨b, off + k * 9 + 6, none⟩ = some (.string ⟨u.start.toArray⟩) := hcs 6 _ rfl
          have c7 : wr.cell? ⟨b, off + k * 9 + 7, none⟩ = some (.slice u.A u.n u.c) := hcs 7 _ rfl
          have c8 : wr.cell? ⟨b, off + k * 9 + 8, none⟩ = some (.slice u.A2 u.n2 u.c2) := hcs 8 _ rfl
          have s1 : (⟨name.toArray⟩ : ByteArray).size = name.length := bsz_mk name
          have s2 : (⟨(linesU u.srv).toArray⟩ : ByteArray).size = (linesU u.srv).length := bsz_mk _
          generalize hLU : linesU u.srv = lu at *
          have q1 : ¬ 9223372036854775807 < bb.size + 6 := by omega
          have q2 : ¬ 9223372036854775807 < bb.size + 6 + name.length := by omega
          have q3 : ¬ 9223372036854775807 < bb.size + 6 + name.length + 1 := by omega
          have q4 : ¬ 9223372036854775807 < bb.size + 6 + name.length + 1 + lu.length := by omega
          rw [hW1] at hmay
          unfold avArr at hmay HG
          unfold svArr at HUL
          simp only at hmay HG HHB HUL
          clear hcs hak ha0 hG1 hW1 hb1 hb hm hsk hall hbb hwd hLU
          go_upto_region 17 with (first
            | (go_at_call 75; refine hmay.mono ?_; clear hmay; rintro e2 w2 ⟨rfl, hb2⟩; have hb2' := (show Below W1.heap.size W1 w2 by rw [HW1.out]; exact hb2); obtain ⟨y0, y1, y2, y3, y4, y5, y6, y7, y8⟩ := nine_of (HG.out w2 hb2'); have hwr := HWR.out w2 hb2'; have r1 := hwr.cell 1; have r2 := hwr.cell 2; have r3 := hwr.cell 3; have r5 := hwr.cell 5; have r6 := hwr.cell 6; unfold wordsR at r1 r2 r3 r5 r6; simp only [List.getElem?_toArray, List.getElem?_cons_zero, List.getElem?_cons_succ] at r1 r2 r3 r5 r6; have HB2 := Lib.hid hb2'; clear hb2 hb2' hwr))
          go_region
          go_wp2_with (go_at_call 77; refine (HUL.out _ (HCH.out _ (HB2.out.trans (below_drewN _ 1)))).mono ?_; rintro e3 w3 ⟨rfl, hb3⟩; have HB3 := Lib.hid ((HB2.out.trans (below_drewN _ 1)).trans (hb3.mono (HB2.out.trans (below_drewN _ 1)).size)); clear hb3)
          exact ⟨⟨k + 1, _, by omega, by go_num, rfl, HA1.out, (show (_ : Txt) = _ by rw [HFIN.out, HHB.out]; simp [wStart]), HCH.out _ HB3.out, HWR.out _ HB3.out⟩, by simp [intOf]; omega⟩
        have hk0 : a.kind = 1 ∨ a.kind = 2 ∨ a.kind = 3 ∨ a.kind = 5 := by have : a.act.kind = a.kind := rfl; omega
        have hnl : a.name.length ≤ 120 := hms.1
        have HHB := Lib.hid (show headA decI a.act ++ 10 :: bodyA a.act = (wordK a.kind ++ [32]) ++ a.name ++ [10] by
          obtain ⟨kind, name, f, u⟩ := a
          simp only at hk0 ⊢
          rcases hk0 with rfl | rfl | rfl | rfl <;> simp [headA, bodyA, AV.act, wordK])
        clear hms hbq hdl hf4 hs4 hkk hk4 hk6 HLN HDT
        obtain ⟨kind, name, ⟨p, fk, fd, fA, fn, fc⟩, u⟩ := a
        simp only at hk0 hnl
        have c0 : wr.cell? ⟨b, off + k * 9, none⟩ = some (.int .i64 kind) := hcs 0 _ rfl
        have c1 : wr.cell? ⟨b, off + k * 9 + 1, none⟩ = some (.string ⟨name.toArray⟩) := hcs 1 _ rfl
        have c2 : wr.cell? ⟨b, off + k * 9 + 2, none⟩ = some (.string ⟨p.toArray⟩) := hcs 2 _ rfl
        have c3 : wr.cell? ⟨b, off + k * 9 + 3, none⟩ = some (.int .i64 fk) := hcs 3 _ rfl
        have c4 : wr.cell? ⟨b, off + k * 9 + 4, none⟩ = some (.slice fA fn fc) := hcs 4 _ rfl
        have c5 : wr.cell? ⟨b, off + k * 9 + 5, none⟩ = some (.string ⟨u.name.toArray⟩) := hcs 5 _ rfl
        have c6 : wr.cell? ⟨b, off + k * 9 + 6, none⟩ = some (.string ⟨u.start.toArray⟩) := hcs 6 _ rfl
        have c7 : wr.cell? ⟨b, off + k * 9 + 7, none⟩ = some (.slice u.A u.n u.c) := hcs 7 _ rfl
        have c8 : wr.cell? ⟨b, off + k * 9 + 8, none⟩ = some (.slice u.A2 u.n2 u.c2) := hcs 8 _ rfl
        have s1 : (⟨name.toArray⟩ : ByteArray).size = name.length := bsz_mk name
        have q1 : ¬ 9223372036854775807 < bb.size + 5 := by omega
        have q2 : ¬ 9223372036854775807 < bb.size + 5 + name.length := by omega
        have q3 : ¬ 9223372036854775807 < bb.size + 5 + name.length + 1 := by omega
        have q4 : ¬ 9223372036854775807 < bb.size + 7 := by omega
        have q5 : ¬ 9223372036854775807 < bb.size + 7 + name.length := by omega
        have q6 : ¬ 9223372036854775807 < bb.size + 7 + name.length + 1 := by omega
        rw [hW1] at hmay
        unfold avArr at hmay HG
        simp only at hmay HG HHB
        clear hcs hak ha0 hG1 hW1 hb1 hb hm hsk hall hbb hwd
        rcases hk0 with rfl | rfl | rfl | rfl
        all_goals
          go_upto_region 17 with (first
            | (go_at_call 75; refine hmay.mono ?_; clear hmay; rintro e2 w2 ⟨rfl, hb2⟩; have hb2' := (show Below W1.heap.size W1 w2 by rw [HW1.out]; exact hb2); obtain ⟨y0, y1, y2, y3, y4, y5, y6, y7, y8⟩ := nine_of (HG.out w2 hb2'); have hwr := HWR.out w2 hb2'; have r1 := hwr.cell 1; have r2 := hwr.cell 2; have r3 := hwr.cell 3; have r5 := hwr.cell 5; have r6 := hwr.cell 6; unfold wordsR at r1 r2 r3 r5 r6; simp only [List.getElem?_toArray, List.getElem?_cons_zero, List.getElem?_cons_succ] at r1 r2 r3 r5 r6; have HB2 := Lib.hid hb2'; clear hb2 hb2' hwr))
          go_region
          go_wp2_with (fail)
        all_goals exact ⟨⟨k + 1, _, by omega, by go_num, rfl, HA1.out, (show (_ : Txt) = _ by rw [HFIN.out, HHB.out]; simp [wordK, wStop, wRemove, wDrop, wUser]), HCH.out _ (HB2.out.trans (below_drewN _ _)), (HWR.out _ (HB2.out.trans (below_drewN _ _)))⟩, by simp [intOf]; omega⟩
    · obtain rfl : k = n := by omega
      have HTK := Lib.hid (show l.take k = l by rw [List.take_of_length_le (by have := HL.out; omega)])
      have HYES := Lib.hid (And.intro (textA_yes (l := l) (by have := HL.out; omega) (by have := hall.out; rwa [HTK.out] at this)) (textA_some (l := l) (by have := HL.out; omega) (by have := hall.out; rwa [HTK.out] at this)))
      have HBB := Lib.hid (hbb.out.trans (by rw [HTK.out]))
      have HBL := Lib.hid hb.out
      have q9 : ¬ 9223372036854775807 < bb.size + 4 := by omega
      clear hbb hb hall hwd
      go_wp2_with (fail)
      go_ret2
      exact ⟨bb ++ ⟨#[101, 110, 100, 10]⟩, by rw [HYES.out.2]; rfl, by rw [HYES.out.1, ← HBB.out]; simp [wEnd], HBL.out⟩
end Go.Proofs.YtibndaianhlcaaaGreatDoor
