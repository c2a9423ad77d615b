/- activate.Text, of any steps. -/
import Derived.Test.YtibndaianhlcaaaGreatDoorPart28
import Derived.Test.YtibndaianhlcaaaGreatDoorPart6
import Derived.Test.YtibndaianhlcaaaGreatDoorPart8
namespace Go.Proofs.YtibndaianhlcaaaGreatDoor
open Go.RowKit Go.Sort Go.Shelf
open Go.WideShapes (bytes_inj)
set_option linter.unusedVariables false
set_option linter.unusedSimpArgs false

def lineQ (a : AV) : Txt := headA decI a.act ++ 10 :: bodyA a.act
def scriptQ (l : List AV) : Txt := l.flatMap lineQ
theorem scriptQ_succ (l : List AV) {k : Nat} (hk : k < l.length) : scriptQ (l.take (k + 1)) = scriptQ (l.take k) ++ lineQ l[k] := by
  unfold scriptQ
  rw [List.take_succ_eq_append_getElem hk, List.flatMap_append, List.flatMap_cons, List.flatMap_nil, List.append_nil]
theorem nameB_len {t : Txt} (h : nameB t = true) : t.length ≤ 36 := by
  unfold nameB at h
  rw [Bool.and_eq_true, decide_eq_true_eq] at h
  exact h.1.2.1
theorem flat_short (p : Txt) (hp : p.length ≤ 9) : ∀ l : List Txt, (∀ n ∈ l, n.length ≤ 36) → (l.flatMap fun n => p ++ n ++ [10]).length ≤ l.length * 46
  | [], _ => by simp
  | n :: l, h => by
    have ih := flat_short p hp l fun x hx => h x (List.mem_cons_of_mem _ hx)
    have h1 := h n List.mem_cons_self
    rw [List.flatMap_cons, List.length_append, List.length_cons, Nat.add_mul]
    simp only [List.length_append, List.length_cons, List.length_nil]
    omega
theorem linesU_short {u : Srv} (h : mayU u = true) : (linesU u).length ≤ 200 + (u.req.length + u.aft.length) * 46 := by
  unfold mayU at h
  simp only [Bool.and_eq_true, decide_eq_true_eq] at h
  have hall := List.all_eq_true.1 h.1.1
  have k1 := flat_short [114, 101, 113, 117, 105, 114, 101, 115, 32] (by decide) u.req fun n hn => nameB_len (hall n (by simp [hn]))
  have k2 := flat_short [97, 102, 116, 101, 114, 32] (by decide) u.aft fun n hn => nameB_len (hall n (by simp [hn]))
  have k3 := h.1.2.2
  unfold linesU
  simp only [List.length_append, List.length_cons, List.length_nil] at k1 k2 ⊢
  rw [Nat.add_mul]
  omega
theorem mayU_wide {w : World} {B : Nat} {u : SV} (h : mayU u.srv = true) (hn : u.n ≤ 60000000) (hn2 : u.n2 ≤ 60000000) (h1 : u.req.length = u.n) (h2 : u.aft.length = u.n2) : SmallW u := by
  unfold mayU at h
  simp only [Bool.and_eq_true, decide_eq_true_eq] at h
  have hall := List.all_eq_true.1 h.1.1
  have hr : ∀ n ∈ u.req, n.length ≤ 36 := fun n hn => nameB_len (hall n (by simp [SV.srv, hn]))
  have ha : ∀ n ∈ u.aft, n.length ≤ 36 := fun n hn => nameB_len (hall n (by simp [SV.srv, hn]))
  refine ⟨Nat.le_trans h.1.2.2 (by decide), fun t ht => ?_, hn, hn2, fun k => ?_, fun k => ?_⟩
  · rcases List.mem_append.1 ht with ht | ht
    · exact Nat.le_trans (hr t ht) (by decide)
    · exact Nat.le_trans (ha t ht) (by decide)
  · have := flat_short [114, 101, 113, 117, 105, 114, 101, 115, 32] (by decide) (u.req.take k) fun n hn => hr n (List.mem_of_mem_take hn)
    have hl : (u.req.take k).length ≤ 60000000 := by rw [List.length_take]; omega
    unfold linesW
    omega
  · have := flat_short [97, 102, 116, 101, 114, 32] (by decide) (u.aft.take k) fun n hn => ha n (List.mem_of_mem_take hn)
    have hl : (u.aft.take k).length ≤ 60000000 := by rw [List.length_take]; omega
    unfold linesW
    omega
theorem path_short {x : Ent} (h : entryB x = true) : x.path.length ≤ 120 := by
  by_cases h3 : 120 < x.path.length
  · rw [entryB_long (.inl h3)] at h; cases h
  · omega
/-- What is told of a step that may be is short, but for its unit's lists. -/
theorem may_short {a : ActP} (hm : mayA a = true) : a.name.length ≤ 120 ∧ a.file.path.length ≤ 120 ∧ (headA decI a).length ≤ 3000 ∧ (bodyA a).length ≤ 2100 + (a.unit.req.length + a.unit.aft.length) * 46 := by
  have hn : ∀ k : Int, k = 1 ∨ k = 2 ∨ k = 3 ∨ k = 5 ∨ k = 6 → ∀ n : Txt, n.length ≤ 120 → ∀ (f : Ent) (u : Srv), (headA decI ⟨k, n, f, u⟩).length ≤ 3000 := fun k hk n hl f u => by
    rcases hk with rfl | rfl | rfl | rfl | rfl <;> simp [headA, wStop, wRemove, wDrop, wUser, wStart] <;> omega
  rcases may_shape hm with ⟨hk, hnm, e⟩ | ⟨hr, e⟩ | ⟨hr, e⟩ | ⟨hu, e⟩
  · have h1 := nameB_len hnm
    have hb : bodyA ⟨a.kind, a.name, ent0, srv0⟩ = [] := by
      unfold bodyA
      rw [if_neg (show ¬ a.kind = 4 by omega), if_neg (show ¬ a.kind = 6 by omega)]
    rw [e]
    refine ⟨by show a.name.length ≤ _; omega, by show ([] : Txt).length ≤ _; simp, hn _ (by omega) _ (by omega) _ _, ?_⟩
    rw [hb]
    simp
  · have h1 : a.name.length ≤ 120 := path_short (right1_entry hr)
    rw [e]
    refine ⟨h1, by show ([] : Txt).length ≤ _; simp, hn _ (by omega) _ h1 _ _, by show ([] : Txt).length ≤ _; simp⟩
  · have hx := right1_entry hr
    have h1 : a.file.path.length ≤ 120 := path_short hx
    have h3 : (decI a.file.data.length).length ≤ 1000 := itoa_len _ (by have := (entry_short hx).1; omega)
    have h4 : headA decI ⟨4, a.file.path, a.file, srv0⟩ = wFile ++ 32 :: (if a.file.kind = 3 then [108, 32] else [102, 32]) ++ a.file.path ++ 32 :: decI a.file.data.length := rfl
    have h5 : (if a.file.kind = 3 then ([108, 32] : Txt) else [102, 32]).length = 2 := by split <;> rfl
    have h6 := (entry_short hx).1
    rw [e]
    refine ⟨h1, h1, ?_, ?_⟩
    · rw [h4]
      simp only [List.length_append, List.length_cons, h5]
      simp [wFile]
      omega
    · show a.file.data.length ≤ _
      omega
  · have h1 : a.unit.name.length ≤ 36 := by
      have h9 := hu
      unfold mayU at h9
      simp only [Bool.and_eq_true] at h9
      exact nameB_len (List.all_eq_true.1 h9.1.1 a.unit.name (by simp))
    rw [e]
    refine ⟨by show a.unit.name.length ≤ _; omega, by show ([] : Txt).length ≤ _; simp, hn _ (by omega) _ (by omega) _ _, ?_⟩
    have := linesU_short hu
    show (linesU a.unit).length ≤ 2100 + (a.unit.req.length + a.unit.aft.length) * 46
    omega
theorem headQ_short {a : AV} (hm : mayA a.act = true) : (headA decI a.act).length ≤ 3000 := (may_short hm).2.2.1
theorem bodyQ_short {w : World} {B : Nat} {a : AV} (ha : ActAt w B a) (hs : SmallQ a) (hm : mayA a.act = true) : (bodyA a.act).length ≤ 6000000000 := by
  have h1 : a.act.unit.req.length ≤ 60000000 := by have := ha.req.len; have h2 := hs.unit.n; simp at this; show a.unit.req.length ≤ _; omega
  have h2 : a.act.unit.aft.length ≤ 60000000 := by have := ha.aft.len; have h2 := hs.unit.n2; simp at this; show a.unit.aft.length ≤ _; omega
  have h3 := (may_short hm).2.2.2
  omega
theorem lineQ_short {w : World} {B : Nat} {a : AV} (ha : ActAt w B a) (hs : SmallQ a) (hm : mayA a.act = true) : (lineQ a).length ≤ 6000010000 := by
  have h1 := headQ_short hm
  have h2 := bodyQ_short ha hs hm
  unfold lineQ
  rw [List.length_append, List.length_cons]
  omega
theorem scriptQ_short : ∀ {l : List AV}, (∀ a ∈ l, (lineQ a).length ≤ 6000010000) → (scriptQ l).length ≤ l.length * 6000010000
  | [], _ => by simp [scriptQ]
  | a :: l, h => by
    have ih := scriptQ_short (l := l) fun x hx => h x (List.mem_cons_of_mem _ hx)
    have h1 := h a List.mem_cons_self
    unfold scriptQ at ih ⊢
    rw [List.flatMap_cons, List.length_append, List.length_cons, Nat.add_mul]
    omega
theorem textA_yes {l : List AV} (hn : l.length ≤ 128) (h : ∀ a ∈ l, mayA a.act = true) : (textA decI (l.map AV.act)).getD [] = scriptQ l ++ wEnd := by
  unfold textA
  rw [if_pos ⟨by simpa using hn, by rw [List.all_map, List.all_eq_true]; exact h⟩]
  show (l.map AV.act).flatMap _ ++ wEnd = _
  unfold scriptQ
  rw [List.flatMap_map]
  rfl
theorem textA_not {l : List AV} {a : AV} (ha : a ∈ l) (h : mayA a.act = false) : (textA decI (l.map AV.act)).getD [] = [] := by
  unfold textA
  rw [if_neg]
  · rfl
  · rintro ⟨_, h9⟩
    rw [List.all_map, List.all_eq_true] at h9
    have := h9 a ha
    simp only [Function.comp_apply] at this
    rw [h] at this
    cases this
theorem textA_long {l : List AV} (h : 128 < l.length) : (textA decI (l.map AV.act)).getD [] = [] := by
  unfold textA
  rw [if_neg]
  · rfl
  · rintro ⟨h9, _⟩
    rw [List.length_map] at h9
    omega
theorem may_kinds {a : ActP} (h : mayA a = true) : a.kind = 1 ∨ a.kind = 2 ∨ a.kind = 3 ∨ a.kind = 4 ∨ a.kind = 5 ∨ a.kind = 6 := by
  rcases may_shape h with ⟨hk, _, _⟩ | ⟨_, e⟩ | ⟨_, e⟩ | ⟨_, e⟩
  · omega
  · have := congrArg ActP.kind e; simp only at this; omega
  · have := congrArg ActP.kind e; simp only at this; omega
  · have := congrArg ActP.kind e; simp only at this; omega
theorem may_unit {a : ActP} (h : mayA a = true) (h6 : a.kind = 6) : mayU a.unit = true := by
  rcases may_shape h with ⟨hk, _, _⟩ | ⟨_, e⟩ | ⟨_, e⟩ | ⟨hu, e⟩
  · omega
  · have := congrArg ActP.kind e; simp only at this; omega
  · have := congrArg ActP.kind e; simp only at this; omega
  · exact hu
theorem may_file {a : ActP} (h : mayA a = true) (h4 : a.kind = 4) : a.file.data.length ≤ 2048 := by
  rcases may_shape h with ⟨hk, _, _⟩ | ⟨_, e⟩ | ⟨hr, e⟩ | ⟨_, e⟩
  · omega
  · have := congrArg ActP.kind e; simp only at this; omega
  · exact (entry_short (right1_entry hr)).1
  · have := congrArg ActP.kind e; simp only at this; omega
theorem head21_any {w w0 : World} {B : Nat} {a : AV} (ha : ActAt w0 B a) (hm : mayA a.act = true) (htab : TabOk w) :
    Calls Tryz.prog 71 #[.agg (avArr a)] w fun e w' => ∃ b : ByteArray, e = .returned (.string b) ∧ b.data.toList = headA decI a.act ∧ b.size ≤ 2100000 ∧ Below w.heap.size w w' := by
  by_cases k4 : a.kind = 4
  · have hd : a.file.data.length = a.file.n := by have := ha.data.len; simpa using this
    have h9 := may_file hm k4
    exact headF_any a k4 (Nat.le_trans (may_short hm).2.1 (by decide)) hd (htab.itoa a.file.n (by rw [← hd]; exact Nat.lt_of_le_of_lt h9 (by decide)))
  · have hk := may_kinds hm
    exact headP_any a (by show a.act.kind = 1 ∨ _; have : a.act.kind ≠ 4 := k4; show a.act.kind = 1 ∨ a.act.kind = 2 ∨ a.act.kind = 3 ∨ a.act.kind = 5 ∨ a.act.kind = 6; omega) (Nat.le_trans (may_short hm).1 (by decide))
theorem wb21 (B b : Nat) (l d : Txt) (w : World) (h : Lib.IsBuilderF 113 5 B b (Lib.byteCells l) w) {B' : Nat} {A : Option Addr} {n c : Nat} (hS : Slc w B' 1 A n c (d.map bv)) (hB' : B' ≤ B) (hlen : l.length + n ≤ 140737488355328) (hBw : B ≤ w.heap.size) :
    Calls Tryz.prog 72 #[.pointer (some ⟨b, 0, none⟩), .slice A n c] w fun e w' => e = .returned (.tuple #[.int .i64 n, .nilIface]) ∧ Lib.IsBuilderF 113 5 B b (Lib.byteCells (l ++ d)) w' ∧ Below B w w' ∧ Lib.OthersKept 5 (some b) w w' := by
  refine (wb_any B b (Lib.byteCells l) w h hS hB' (by rw [Lib.byteCells_length]; omega) hBw).mono ?_
  rintro e w' ⟨rfl, h1, h2, h3⟩
  refine ⟨rfl, ?_, h2, h3⟩
  rw [Lib.byteCells_append]
  exact h1
set_option maxRecDepth 100000 in
set_option maxHeartbeats 8000000 in
theorem text21_any {w : World} {B : Nat} {A : Option Addr} {n c : Nat} {l : List AV} (h : ActsAt w B A n c l) (hB : B ≤ w.heap.size) (hs : ∀ a ∈ l, SmallQ a) (htab : TabOk w) :
    Calls Tryz.prog 31 #[.slice A n c] w fun e w' => ∃ b : ByteArray, e = .returned (.string b) ∧ b.data.toList = (textA decI (l.map AV.act)).getD [] ∧ Below w.heap.size w w' := by
  have hcm : n ≤ 9223372036854775807 := Nat.le_trans h.slc.le (Nat.le_trans h.slc.cmax (by decide))
  by_cases hn : 128 < n
  · have hT := textA_long (l := l) (by rw [h.len]; exact hn)
    have hn' : ((128 : Int) < (n : Int)) := by omega
    have HT := Lib.hid hT
    clear h hB hs htab hT
    go_enter Tryz.func31, Tryz.ntmps31
    go_wp2_with (fail)
    go_ret
    exact ⟨_, rfl, by rw [HT.out], Below.refl _ _⟩
  have hn128 : n ≤ 128 := by omega
  have hD0 := builder_new21 w
  have hb0 := bel_new w (.cells #[.pointer none, .slice none 0 0] 113)
  have H := Lib.hid h
  have HB := Lib.hid hB
  have HS := Lib.hid hs
  have HTB := Lib.hid htab
  have HD0 := Lib.hid hD0
  have HB0 := Lib.hid hb0
  have HL := Lib.hid h.len
  have HLT0 := Lib.hid (show w.heap.size < (w.alloc (.cells #[.pointer none, .slice none 0 0] 113)).heap.size by simp)
  clear h hB hs hD0 hb0 htab hcm hn
  go_enter Tryz.func31, Tryz.ntmps31
  go_wp2_with (fail)
  go_loopw [11] (fun i wr => ∃ k : Nat, k ≤ n ∧ i = .int .i64 (k : Int) ∧ Aside (∀ a ∈ l.take k, mayA a.act = true) ∧ Aside (Lib.IsBuilderF 113 5 w.heap.size w.heap.size (Lib.byteCells (scriptQ (l.take k))) wr) ∧ Aside (Below w.heap.size w wr) ∧ Aside (w.heap.size < wr.heap.size)) (fun i _ => n - (intOf i).toNat)
  case atStart => exact ⟨0, Nat.zero_le _, rfl, fun a ha => by simp at ha, HD0.out, HB0.out, HLT0.out⟩
  case round =>
    obtain ⟨k, hk, rfl, hall, hD, hb, hlt0⟩ := hrel
    by_cases hlt : k < n
    · obtain ⟨b, off, rfl, hbB, hl, hcs⟩ := (H.out.below (hb.out.mono HB.out)).cells hlt
      have ha0 := H.out.acts _ (List.getElem_mem hl)
      have hak := (H.out.acts _ (List.getElem_mem hl)).below (hb.out.mono HB.out)
      have hsk := HS.out _ (List.getElem_mem hl)
      have HSC := Lib.hid (scriptQ_succ l hl)
      have HAL := Lib.hid (show mayA l[k].act = true → ∀ a ∈ l.take (k + 1), mayA a.act = true from fun h9 a ha => by
        rw [List.take_succ_eq_append_getElem hl] at ha
        rcases List.mem_append.1 ha with ha | ha
        · exact hall.out a ha
        · rw [List.mem_singleton.1 ha]; exact h9)
      have HNO := Lib.hid (fun h9 : mayA l[k].act = false => textA_not (List.getElem_mem hl) h9)
      have hsl : (scriptQ (l.take k)).length ≤ 768001280000 := Nat.le_trans (scriptQ_short fun a ha => lineQ_short (H.out.acts a (List.mem_of_mem_take ha)) (HS.out a (List.mem_of_mem_take ha)) (hall.out a ha)) (by rw [List.length_take]; omega)
      generalize l[k] = a at *
      have hwb : B ≤ wr.heap.size := Nat.le_trans HB.out hb.out.size
      obtain ⟨W1, hW1⟩ : ∃ W1, W1 = wr.alloc (.cells (avArr a) 61) := ⟨_, rfl⟩
      have hb1 : Below wr.heap.size wr W1 := by rw [hW1]; exact bel_new _ _
      have hG1 : Blk W1 wr.heap.size 61 (avArr a) := by rw [hW1]; exact Blk.new _ _ _
      have hmay := may21_any (w := W1) a (hak.below (hb1.mono hwb)) (Nat.le_trans hwb hb1.size) hsk
      have HBW := Lib.hid hb.out
      have HB1 := Lib.hid hb1
      have HW1 := Lib.hid hW1
      have HLT := Lib.hid hlt0.out
      cases hm : mayA a.act with
      | false =>
        rw [hm] at hmay
        have HNA := Lib.hid (HNO.out hm)
        obtain ⟨kind, name, ⟨p, fk, fd, fA, fn, fc⟩, u⟩ := a
        have c0 : wr.cell? ⟨b, off + k * 9, none⟩ = some (.int .i64 kind) := hcs 0 _ rfl
        have c1 : wr.cell? ⟨b, off + k * 9 + 1, none⟩ = some (.string ⟨name.toArray⟩) := hcs 1 _ rfl
        have c2 : wr.cell? ⟨b, off + k * 9 + 2, none⟩ = some (.string ⟨p.toArray⟩) := hcs 2 _ rfl
        have c3 : wr.cell? ⟨b, off + k * 9 + 3, none⟩ = some (.int .i64 fk) := hcs 3 _ rfl
        have c4 : wr.cell? ⟨b, off + k * 9 + 4, none⟩ = some (.slice fA fn fc) := hcs 4 _ rfl
        have c5 : wr.cell? ⟨b, off + k * 9 + 5, none⟩ = some (.string ⟨u.name.toArray⟩) := hcs 5 _ rfl
        have c6 : wr.cell? ⟨b, off + k * 9 + 6, none⟩ = some (.string ⟨u.start.toArray⟩) := hcs 6 _ rfl
        have c7 : wr.cell? ⟨b, off + k * 9 + 7, none⟩ = some (.slice u.A u.n u.c) := hcs 7 _ rfl
        have c8 : wr.cell? ⟨b, off + k * 9 + 8, none⟩ = some (.slice u.A2 u.n2 u.c2) := hcs 8 _ rfl
        rw [hW1] at hmay
        unfold avArr at hmay
        simp only at hmay
        clear hcs hak ha0 hG1 hW1 hb1 hb hD hlt0 hm hsk hall
        go_wp2_with (first
          | (go_at_call 69; refine hmay.mono ?_; clear hmay; rintro e2 w2 ⟨rfl, hb2⟩; have HB2 := Lib.hid (show Below W1.heap.size W1 w2 by rw [HW1.out]; exact hb2); clear hb2))
        go_ret
        refine ⟨_, rfl, by rw [HNA.out], ?_⟩
        exact (HBW.out.trans (HB1.out.mono HBW.out.size)).trans (HB2.out.mono (Nat.le_trans HBW.out.size HB1.out.size))
      | true =>
        rw [hm] at hmay
        have HHD := Lib.hid (fun (W : World) (hW : Below w.heap.size w W) => head21_any (w := W) ha0 hm (HTB.out.below hW))
        have HG := Lib.hid (fun (W : World) (hW : Below W1.heap.size W1 W) => hG1.below hW hG1.lt)
        have HWS := Lib.hid (fun (W : World) (hW : Below W1.heap.size W1 W) (s : ByteArray) (t : Txt) (hst : s.data.toList = t) (ht : t.length ≤ 4000) => ws21 w.heap.size w.heap.size (scriptQ (l.take k)) t s hst W (builder_below21 hD.out (hb1.trans (hW.mono hb1.size))) (by omega) (Nat.le_trans hb.out.size (Nat.le_trans hb1.size hW.size)))
        obtain ⟨TXT, hTX⟩ : ∃ T, T = headA decI a.act ++ [10] := ⟨_, rfl⟩
        have HTX := Lib.hid hTX
        have HTS := Lib.hid (show TXT.length ≤ 4000 by rw [hTX, List.length_append]; have := headQ_short hm; simp; omega)
        have HFIN := Lib.hid (show scriptQ (l.take (k + 1)) = scriptQ (l.take k) ++ TXT ++ bodyA a.act by rw [HSC.out, hTX]; unfold lineQ; simp)
        have HBS := Lib.hid (bodyQ_short ha0 hsk hm)
        have HA1 := Lib.hid (HAL.out hm)
        have HCH := Lib.hid (fun (W : World) (hW : Below W1.heap.size W1 W) => (hb.out.trans (hb1.mono hb.out.size)).trans (hW.mono (Nat.le_trans hb.out.size hb1.size)))
        have HNB := Lib.hid (show wr.heap.size ≠ w.heap.size by have := HLT.out; omega)
        have HUN := Lib.hid (fun (h6 : a.kind = 6) (W : World) (hW : Below w.heap.size w W) => unit21W_any (w := W) a.unit (ha0.req.below (hW.mono HB.out)) (ha0.aft.below (hW.mono HB.out)) (Nat.le_trans HB.out hW.size) (mayU_wide (w := W) (B := B) (may_unit hm h6) hsk.unit.n hsk.unit.n2 (by have := ha0.req.len; simpa using this) (by have := ha0.aft.len; simpa using this)))
        have HDT := Lib.hid (fun (W : World) (hW : Below w.heap.size w W) => ha0.data.below (hW.mono HB.out))
        by_cases hk9 : a.kind = 4
        · have HBD := Lib.hid (show bodyA a.act = a.file.data from by unfold bodyA; rw [if_pos (show a.act.kind = 4 from hk9)]; rfl)
          have HFN := Lib.hid (show a.file.data.length = a.file.n by have := ha0.data.len; simpa using this)
          rw [HBD.out] at HBS
          obtain ⟨kind, name, ⟨p, fk, fd, fA, fn, fc⟩, u⟩ := a
          simp only at hk9
          subst hk9
          have c0 : wr.cell? ⟨b, off + k * 9, none⟩ = some (.int .i64 4) := hcs 0 _ rfl
          have c1 : wr.cell? ⟨b, off + k * 9 + 1, none⟩ = some (.string ⟨name.toArray⟩) := hcs 1 _ rfl
          have c2 : wr.cell? ⟨b, off + k * 9 + 2, none⟩ = some (.string ⟨p.toArray⟩) := hcs 2 _ rfl
          have c3 : wr.cell? ⟨b, off + k * 9 + 3, none⟩ = some (.int .i64 fk) := hcs 3 _ rfl
          have c4 : wr.cell? ⟨b, off + k * 9 + 4, none⟩ = some (.slice fA fn fc) := hcs 4 _ rfl
          have c5 : wr.cell? ⟨b, off + k * 9 + 5, none⟩ = some (.string ⟨u.name.toArray⟩) := hcs 5 _ rfl
          have c6 : wr.cell? ⟨b, off + k * 9 + 6, none⟩ = some (.string ⟨u.start.toArray⟩) := hcs 6 _ rfl
          have c7 : wr.cell? ⟨b, off + k * 9 + 7, none⟩ = some (.slice u.A u.n u.c) := hcs 7 _ rfl
          have c8 : wr.cell? ⟨b, off + k * 9 + 8, none⟩ = some (.slice u.A2 u.n2 u.c2) := hcs 8 _ rfl
          rw [hW1] at hmay
          unfold avArr at hmay HG HHD
          simp only at hmay HG HHD HUN HDT HBD
          clear hcs hak ha0 hG1 hW1 hb1 hb hD hlt0 hTX hall hsk hm
          go_wp2_with (first
            | (go_at_call 69; refine hmay.mono ?_; clear hmay; rintro e2 w2 ⟨rfl, hb2⟩; have hb2' := (show Below W1.heap.size W1 w2 by rw [HW1.out]; exact hb2); obtain ⟨y0, y1, y2, y3, y4, y5, y6, y7, y8⟩ := nine_of (HG.out w2 hb2'); have hhd := HHD.out w2 (HCH.out w2 hb2'); have HB2 := Lib.hid hb2'; clear hb2 hb2')
            | (go_at_call 71; refine hhd.mono ?_; clear hhd; rintro e3 w3 ⟨hs3, rfl, hd3, hz3, hb3⟩; have hb3' := HB2.out.trans (hb3.mono HB2.out.size); have q9 : ¬ 9223372036854775807 < hs3.size + 1 := (by omega); have hws := HWS.out w3 hb3' (hs3 ++ ⟨#[10]⟩) TXT ((head_line hd3).trans HTX.out.symm) HTS.out; have HB3 := Lib.hid hb3'; clear hb3 hb3' hd3)
            | (go_at_call 70; refine hws.mono ?_; clear hws; rintro e4 w4 ⟨rfl, hd4, hb4, hk4⟩; obtain ⟨z0, z1, z2, z3, z4, z5, z6, z7, z8⟩ := nine_of (blk_others (HG.out w3 HB3.out) hk4 HNB.out (by decide)); have HD4 := Lib.hid hd4; have HB4 := Lib.hid ((HCH.out w3 HB3.out).trans hb4); have HZ4 := Lib.hid (show w.heap.size < w4.heap.size from Nat.lt_of_lt_of_le HLT.out (Nat.le_trans (Nat.le_trans HB1.out.size HB3.out.size) hb4.size)); have hwb9 := wb21 w.heap.size w.heap.size (scriptQ (l.take k) ++ TXT) fd w4 hd4 (HDT.out w4 HB4.out) HB.out (by rw [List.length_append]; have h1 := HTS.out; have h2 := HBS.out; have h3 := HFN.out; (try simp only at h2 h3); omega) HB4.out.size; clear hb4 hk4 hd4)
            | (go_at_call 72; refine hwb9.mono ?_; clear hwb9; rintro e6 w6 ⟨rfl, hd6, hb6, hk6⟩; have HD6 := Lib.hid hd6; have HZ6 := Lib.hid (Nat.lt_of_lt_of_le HZ4.out hb6.size); have HB6 := Lib.hid (HB4.out.trans hb6); clear hb6 hk6 hd6))
          exact ⟨⟨k + 1, by omega, by go_num, HA1.out, (show Lib.IsBuilderF _ _ _ _ _ _ by rw [HFIN.out, HBD.out]; exact HD6.out), HB6.out, HZ6.out⟩, by simp [intOf]; omega⟩
        by_cases hk9b : a.kind = 6
        · have HBD := Lib.hid (show bodyA a.act = linesU a.unit.srv from by unfold bodyA; rw [if_neg (show ¬ a.act.kind = 4 from hk9), if_pos (show a.act.kind = 6 from hk9b)]; rfl)
          replace HUN := Lib.hid (HUN.out hk9b)
          rw [HBD.out] at HBS
          obtain ⟨kind, name, ⟨p, fk, fd, fA, fn, fc⟩, u⟩ := a
          simp only at hk9b
          subst hk9b
          have c0 : wr.cell? ⟨b, off + k * 9, none⟩ = some (.int .i64 6) := hcs 0 _ rfl
          have c1 : wr.cell? ⟨b, off + k * 9 + 1, none⟩ = some (.string ⟨name.toArray⟩) := hcs 1 _ rfl
          have c2 : wr.cell? ⟨b, off + k * 9 + 2, none⟩ = some (.string ⟨p.toArray⟩) := hcs 2 _ rfl
          have c3 : wr.cell? ⟨b, off + k * 9 + 3, none⟩ = some (.int .i64 fk) := hcs 3 _ rfl
          have c4 : wr.cell? ⟨b, off + k * 9 + 4, none⟩ = some (.slice fA fn fc) := hcs 4 _ rfl
          have c5 : wr.cell? ⟨b, off + k * 9 + 5, none⟩ = some (.string ⟨u.name.toArray⟩) := hcs 5 _ rfl
          have c6 : wr.cell? ⟨b, off + k * 9 + 6, none⟩ = some (.string ⟨u.start.toArray⟩) := hcs 6 _ rfl
          have c7 : wr.cell? ⟨b, off + k * 9 + 7, none⟩ = some (.slice u.A u.n u.c) := hcs 7 _ rfl
          have c8 : wr.cell? ⟨b, off + k * 9 + 8, none⟩ = some (.slice u.A2 u.n2 u.c2) := hcs 8 _ rfl
          rw [hW1] at hmay
          unfold avArr at hmay HG HHD
          simp only at hmay HG HHD HUN HDT HBD
          clear hk9 hcs hak ha0 hG1 hW1 hb1 hb hD hlt0 hTX hall hsk hm
          go_wp2_with (first
            | (go_at_call 69; refine hmay.mono ?_; clear hmay; rintro e2 w2 ⟨rfl, hb2⟩; have hb2' := (show Below W1.heap.size W1 w2 by rw [HW1.out]; exact hb2); obtain ⟨y0, y1, y2, y3, y4, y5, y6, y7, y8⟩ := nine_of (HG.out w2 hb2'); have hhd := HHD.out w2 (HCH.out w2 hb2'); have HB2 := Lib.hid hb2'; clear hb2 hb2')
            | (go_at_call 71; refine hhd.mono ?_; clear hhd; rintro e3 w3 ⟨hs3, rfl, hd3, hz3, hb3⟩; have hb3' := HB2.out.trans (hb3.mono HB2.out.size); have q9 : ¬ 9223372036854775807 < hs3.size + 1 := (by omega); have hws := HWS.out w3 hb3' (hs3 ++ ⟨#[10]⟩) TXT ((head_line hd3).trans HTX.out.symm) HTS.out; have HB3 := Lib.hid hb3'; clear hb3 hb3' hd3)
            | (go_at_call 70; refine hws.mono ?_; clear hws; rintro e4 w4 ⟨rfl, hd4, hb4, hk4⟩; obtain ⟨z0, z1, z2, z3, z4, z5, z6, z7, z8⟩ := nine_of (blk_others (HG.out w3 HB3.out) hk4 HNB.out (by decide)); have HD4 := Lib.hid hd4; have HB4 := Lib.hid ((HCH.out w3 HB3.out).trans hb4); have HZ4 := Lib.hid (show w.heap.size < w4.heap.size from Nat.lt_of_lt_of_le HLT.out (Nat.le_trans (Nat.le_trans HB1.out.size HB3.out.size) hb4.size)); have hun := HUN.out w4 HB4.out; unfold svArr at hun; clear hb4 hk4 hd4)
            | (go_at_call 73; refine hun.mono ?_; clear hun; rintro e5 w5 ⟨rfl, hb5⟩; have hws2 := ws21 w.heap.size w.heap.size (scriptQ (l.take k) ++ TXT) (linesU u.srv) ⟨(linesU u.srv).toArray⟩ (by simp) w5 (builder_below21 HD4.out hb5) (by rw [List.length_append]; have h1 := HTS.out; have h2 := HBS.out; omega) (Nat.le_trans HB4.out.size hb5.size); have HB5 := Lib.hid (HB4.out.trans (hb5.mono HB4.out.size)); have HZ5 := Lib.hid (Nat.lt_of_lt_of_le HZ4.out hb5.size); clear hb5)
            | (go_at_call 70; refine hws2.mono ?_; clear hws2; rintro e6 w6 ⟨rfl, hd6, hb6, hk6⟩; have HD6 := Lib.hid hd6; have HB6 := Lib.hid (HB5.out.trans hb6); have HZ6 := Lib.hid (Nat.lt_of_lt_of_le HZ5.out hb6.size); clear hb6 hk6 hd6))
          exact ⟨⟨k + 1, by omega, by go_num, HA1.out, (show Lib.IsBuilderF _ _ _ _ _ _ by rw [HFIN.out, HBD.out]; exact HD6.out), HB6.out, HZ6.out⟩, by simp [intOf]; omega⟩
        replace hk9 := And.intro hk9 hk9b
        clear hk9b
        have HBD := Lib.hid (show bodyA a.act = [] from by unfold bodyA; rw [if_neg (show ¬ a.act.kind = 4 from hk9.1), if_neg (show ¬ a.act.kind = 6 from hk9.2)])
        have hk4 : (a.kind == 4) = false := by rw [beq_eq_false_iff_ne]; exact hk9.1
        have hk6 : (a.kind == 6) = false := by rw [beq_eq_false_iff_ne]; exact hk9.2
        clear HDT HUN HBS
        obtain ⟨kind, name, ⟨p, fk, fd, fA, fn, fc⟩, u⟩ := a
        simp only at hk9
        have c0 : wr.cell? ⟨b, off + k * 9, none⟩ = some (.int .i64 kind) := hcs 0 _ rfl
        have c1 : wr.cell? ⟨b, off + k * 9 + 1, none⟩ = some (.string ⟨name.toArray⟩) := hcs 1 _ rfl
        have c2 : wr.cell? ⟨b, off + k * 9 + 2, none⟩ = some (.string ⟨p.toArray⟩) := hcs 2 _ rfl
        have c3 : wr.cell? ⟨b, off + k * 9 + 3, none⟩ = some (.int .i64 fk) := hcs 3 _ rfl
        have c4 : wr.cell? ⟨b, off + k * 9 + 4, none⟩ = some (.slice fA fn fc) := hcs 4 _ rfl
        have c5 : wr.cell? ⟨b, off + k * 9 + 5, none⟩ = some (.string ⟨u.name.toArray⟩) := hcs 5 _ rfl
        have c6 : wr.cell? ⟨b, off + k * 9 + 6, none⟩ = some (.string ⟨u.start.toArray⟩) := hcs 6 _ rfl
        have c7 : wr.cell? ⟨b, off + k * 9 + 7, none⟩ = some (.slice u.A u.n u.c) := hcs 7 _ rfl
        have c8 : wr.cell? ⟨b, off + k * 9 + 8, none⟩ = some (.slice u.A2 u.n2 u.c2) := hcs 8 _ rfl
        rw [hW1] at hmay
        unfold avArr at hmay HG HHD
        simp only at hmay HG HHD HBD hk4 hk6
        clear hcs hak ha0 hG1 hW1 hb1 hb hD hlt0 hTX hall hsk hm hk9
        go_wp2_with (first
          | (go_at_call 69; refine hmay.mono ?_; clear hmay; rintro e2 w2 ⟨rfl, hb2⟩; have hb2' := (show Below W1.heap.size W1 w2 by rw [HW1.out]; exact hb2); obtain ⟨y0, y1, y2, y3, y4, y5, y6, y7, y8⟩ := nine_of (HG.out w2 hb2'); have hhd := HHD.out w2 (HCH.out w2 hb2'); have HB2 := Lib.hid hb2'; clear hb2 hb2')
          | (go_at_call 71; refine hhd.mono ?_; clear hhd; rintro e3 w3 ⟨hs3, rfl, hd3, hz3, hb3⟩; have hb3' := HB2.out.trans (hb3.mono HB2.out.size); have q9 : ¬ 9223372036854775807 < hs3.size + 1 := (by omega); have hws := HWS.out w3 hb3' (hs3 ++ ⟨#[10]⟩) TXT ((head_line hd3).trans HTX.out.symm) HTS.out; have HB3 := Lib.hid hb3'; clear hb3 hb3' hd3)
          | (go_at_call 70; refine hws.mono ?_; clear hws; rintro e4 w4 ⟨rfl, hd4, hb4, hk4z⟩; obtain ⟨z0, z1, z2, z3, z4, z5, z6, z7, z8⟩ := nine_of (blk_others (HG.out w3 HB3.out) hk4z HNB.out (by decide)); have HD4 := Lib.hid hd4; have HB4 := Lib.hid ((HCH.out w3 HB3.out).trans hb4); have HZ4 := Lib.hid (show w.heap.size < w4.heap.size from Nat.lt_of_lt_of_le HLT.out (Nat.le_trans (Nat.le_trans HB1.out.size HB3.out.size) hb4.size)); clear hb4 hk4z hd4))
        exact ⟨⟨k + 1, by omega, by go_num, HA1.out, (show Lib.IsBuilderF _ _ _ _ _ _ by rw [HFIN.out, HBD.out]; exact (by rw [List.append_nil]; exact HD4.out)), HB4.out, HZ4.out⟩, by simp [intOf]; omega⟩
    · obtain rfl : k = n := by omega
      have HT := Lib.hid (show l.take k = l by rw [List.take_of_length_le (by have := HL.out; omega)])
      have hd9 := hD.out
      have ha9 := hall.out
      rw [HT.out] at hd9 ha9
      have hst := Tryz.Builder_String_any_k w.heap.size w.heap.size _ wr hd9 hb.out.size
      have HSS := Lib.hid (show (scriptQ l).length ≤ 768001280000 from Nat.le_trans (scriptQ_short fun a ha => lineQ_short (H.out.acts a ha) (HS.out a ha) (ha9 a ha)) (by have := HL.out; omega))
      have HBB := Lib.hid hb.out
      have HYES := Lib.hid (textA_yes (l := l) (by have := HL.out; omega) ha9)
      have q9 : ¬ 9223372036854775807 < (scriptQ l).length + 4 := by have := HSS.out; omega
      clear hd9 hD hb hlt0 ha9 hall
      go_wp2_with (go_at_call 74; refine hst.mono ?_; clear hst; rintro e7 w7 ⟨rfl, hd7, hb7, hk7⟩; have HB7 := Lib.hid (HBB.out.trans hb7); clear hd7 hb7 hk7)
      go_ret
      exact ⟨_, rfl, by rw [HYES.out]; simp [wEnd], HB7.out⟩
end Go.Proofs.YtibndaianhlcaaaGreatDoor
