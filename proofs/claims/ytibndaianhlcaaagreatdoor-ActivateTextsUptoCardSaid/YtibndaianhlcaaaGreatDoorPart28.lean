/- activate.head and activate.Text at steps that have no file. activate.head at any step that may be. (*strings.Builder).Write: bytes are put behind. -/
import Derived.Test.YtibndaianhlcaaaGreatDoorPart26
import Derived.Test.YtibndaianhlcaaaGreatDoorPart27
import Derived.Test.YtibndaianhlcaaaGreatDoorPart7
import Derived.Lib.FrozenHead2
namespace Go.Proofs.YtibndaianhlcaaaGreatDoor
open Go.RowKit Go.Sort Go.Shelf
open Go.WideShapes (bytes_inj)
set_option linter.unusedVariables false
set_option linter.unusedSimpArgs false

def noDec : Nat → Txt := fun _ => []
/-- A step of the document's examples: no file, and it may be. -/
inductive SimpleA : AV → Prop
  | plain (kind : Int) (name : Txt) (eA : Option Addr) (ec : Nat) (uA : Option Addr) (uc : Nat) (uB : Option Addr) (ud : Nat) (hk : kind = 1 ∨ kind = 3 ∨ kind = 5) (hn : nameB name = true) (hl : name.length ≤ 1048576) : SimpleA ⟨kind, name, ev1 eA ec, sv1 uA uc uB ud⟩
  | unit (u : SV) (eA : Option Addr) (ec : Nat) (hm : mayU u.srv = true) (hs : SmallU u) (hl : (linesU u.srv).length ≤ 1000000) : SimpleA ⟨6, u.name, ev1 eA ec, u⟩
def lineA (a : AV) : Txt := headA noDec a.act ++ 10 :: bodyA a.act
def scriptT (l : List AV) : Txt := l.flatMap lineA
theorem scriptT_succ (l : List AV) {k : Nat} (hk : k < l.length) : scriptT (l.take (k + 1)) = scriptT (l.take k) ++ lineA l[k] := by
  unfold scriptT
  rw [List.take_succ_eq_append_getElem hk, List.flatMap_append, List.flatMap_cons, List.flatMap_nil, List.append_nil]
theorem SimpleA.short {a : AV} (h : SimpleA a) : (lineA a).length ≤ 3000000 := by
  cases h with
  | plain kind name eA ec uA uc uB ud hk hn hl =>
    unfold lineA
    rcases hk with rfl | rfl | rfl <;> simp [headA, bodyA, AV.act, wStop, wRemove, wDrop, wUser] <;> omega
  | unit u eA ec hm hs hl =>
    have := hs.name
    unfold lineA
    simp [headA, bodyA, AV.act, wStart]
    omega
theorem script_short : ∀ {l : List AV}, (∀ a ∈ l, SimpleA a) → (scriptT l).length ≤ l.length * 3000000
  | [], _ => by simp [scriptT]
  | a :: l, h => by
    have ih := script_short (l := l) fun x hx => h x (List.mem_cons_of_mem _ hx)
    have h1 := (h a List.mem_cons_self).short
    unfold scriptT at ih ⊢
    rw [List.flatMap_cons, List.length_append, List.length_cons, Nat.add_mul]
    omega
set_option maxRecDepth 100000 in
theorem headS_any {w : World} {a : AV} (h : SimpleA a) :
    Calls Tryz.prog 71 #[.agg (avArr a)] w fun e w' => ∃ b : ByteArray, e = .returned (.string b) ∧ b.data.toList = headA noDec a.act ∧ b.size ≤ 1048600 ∧ Below w.heap.size w w' := by
  have hb := bel_new w (.cells (avArr a) 61)
  cases h with
  | plain kind name eA ec uA uc uB ud hk hn hl =>
    unfold avArr ev1 sv1 at hb ⊢
    simp only at hb ⊢
    have q1 : ¬ 9223372036854775807 < 5 + name.length := by omega
    have hsz : (⟨name.toArray⟩ : ByteArray).size = name.length := bsz_mk name
    rcases hk with rfl | rfl | rfl
    all_goals
      go_enter Tryz.func71, Tryz.ntmps71
      go_wp2_with (fail)
      go_ret
      refine ⟨_, rfl, by simp [headA, AV.act, wStop, wDrop, wUser], ?_, hb⟩
      rw [ByteArray.size_append, hsz]
      show 5 + name.length ≤ _
      omega
  | unit u eA ec hm hs hl =>
    unfold avArr ev1 at hb ⊢
    simp only at hb ⊢
    have hl := hs.name
    have q1 : ¬ 9223372036854775807 < 6 + u.name.length := by omega
    have hsz : (⟨u.name.toArray⟩ : ByteArray).size = u.name.length := bsz_mk _
    go_enter Tryz.func71, Tryz.ntmps71
    go_wp2_with (fail)
    go_ret
    refine ⟨_, rfl, by simp [headA, AV.act, wStart], ?_, hb⟩
    rw [ByteArray.size_append, hsz]
    show 6 + u.name.length ≤ _
    omega
theorem mayS_any {w : World} {B : Nat} {a : AV} (h : SimpleA a) (ha : ActAt w B a) (hB : B ≤ w.heap.size) :
    Calls Tryz.prog 69 #[.agg (avArr a)] w fun e w' => e = .returned (.bool true) ∧ Below w.heap.size w w' := by
  cases h with
  | plain kind name eA ec uA uc uB ud hk hn hl =>
    have := mayP_any (w := w) (eA := eA) (ec := ec) (uA := uA) (uc := uc) (uB := uB) (ud := ud) kind name hk (by omega)
    rwa [hn] at this
  | unit u eA ec hm hs hl =>
    have := mayU_any (eA := eA) (ec := ec) u ha.req ha.aft hB hs
    rwa [hm] at this
theorem ActsAt.cells {w : World} {B : Nat} {A : Option Addr} {n c : Nat} {l : List AV} (h : ActsAt w B A n c l) {k : Nat} (hk : k < n) :
    ∃ b off, A = some ⟨b, off, none⟩ ∧ b < B ∧ ∃ hl : k < l.length, ∀ j v, (avCells l[k])[j]? = some v → w.cell? ⟨b, off + k * 9 + j, none⟩ = some v := by
  obtain ⟨b, off, e, hb, hc⟩ := h.slc.at_ (by omega)
  have hl : k < l.length := by rw [h.len]; exact hk
  refine ⟨b, off, e, hb, hl, fun j v hj => ?_⟩
  have hj9 : j < 9 := (List.getElem?_eq_some_iff.1 hj).1
  have := hc (k * 9 + j) v (by rw [flatMap_get avCells 9 l (fun o _ => avCells_length o) k j hl hj9]; exact hj)
  rwa [← Nat.add_assoc] at this
/-- The nine cells of a step. -/
structure Nine (W : World) (v : Nat) (x0 x1 x2 x3 x4 x5 x6 x7 x8 : Value) : Prop where
  c0 : W.cell? ⟨v, 0, none⟩ = some x0
  c1 : W.cell? ⟨v, 1, none⟩ = some x1
  c2 : W.cell? ⟨v, 2, none⟩ = some x2
  c3 : W.cell? ⟨v, 3, none⟩ = some x3
  c4 : W.cell? ⟨v, 4, none⟩ = some x4
  c5 : W.cell? ⟨v, 5, none⟩ = some x5
  c6 : W.cell? ⟨v, 6, none⟩ = some x6
  c7 : W.cell? ⟨v, 7, none⟩ = some x7
  c8 : W.cell? ⟨v, 8, none⟩ = some x8
theorem nine_of {W : World} {v : Nat} {x0 x1 x2 x3 x4 x5 x6 x7 x8 : Value} (h : Blk W v 61 #[x0, x1, x2, x3, x4, x5, x6, x7, x8]) : Nine W v x0 x1 x2 x3 x4 x5 x6 x7 x8 :=
  ⟨h.cell 0, h.cell 1, h.cell 2, h.cell 3, h.cell 4, h.cell 5, h.cell 6, h.cell 7, h.cell 8⟩
theorem head_line {b : ByteArray} {t : Txt} (h : b.data.toList = t) : (b ++ (⟨#[10]⟩ : ByteArray)).data.toList = t ++ [10] := by
  rw [← h]
  simp
theorem ws21 (B b : Nat) (l t : Txt) (s : ByteArray) (hs : s.data.toList = t) (w : World) (h : Lib.IsBuilderF 113 5 B b (Lib.byteCells l) w) (hlen : l.length + t.length ≤ 140737488355328) (hBw : B ≤ w.heap.size) :
    Calls Tryz.prog 70 #[.pointer (some ⟨b, 0, none⟩), .string s] w fun e w' => e = .returned (.tuple #[.int .i64 s.size, .nilIface]) ∧ Lib.IsBuilderF 113 5 B b (Lib.byteCells (l ++ t)) w' ∧ Below B w w' ∧ Lib.OthersKept 5 (some b) w w' := by
  have hsz : s.size = t.length := by rw [← hs]; rfl
  refine (ws_any B b (Lib.byteCells l) s w h (by rw [Lib.byteCells_length]; omega) hBw).mono ?_
  rintro e w' ⟨rfl, h1, h2, h3⟩
  refine ⟨rfl, ?_, h2, h3⟩
  rw [Lib.strCells_eq, hs, ← Lib.byteCells_append] at h1
  exact h1
theorem builder_new21 (w : World) : Lib.IsBuilderF 113 5 w.heap.size w.heap.size (Lib.byteCells []) (w.alloc (.cells #[.pointer none, .slice none 0 0] 113)) :=
  .inl ⟨Nat.le_refl _, .slice none 0 0, Blk.new _ _ _, World.ownsRowF_nil _ _ _ _, by simp [Value.ownBlock]⟩
theorem builder_below21 {w w' : World} {B b : Nat} {bs : List Value} (h : Lib.IsBuilderF 113 5 B b bs w) (hb : Below w.heap.size w w') : Lib.IsBuilderF 113 5 B b bs w' := by
  have key : ∀ p, Lib.BuilderAtF 113 5 B b p bs w → Lib.BuilderAtF 113 5 B b p bs w' := fun p hp => by
    have hlt := hp.lt
    obtain ⟨hB, v, hbk, hown, hne⟩ := hp
    refine ⟨hB, v, (hb.block b hlt).trans hbk, hown.kept (row := none) ⟨hb.os, hb.tape, hb.output, hb.size, fun k hk _ => hb.block k hk⟩ ?_, hne⟩
    rcases hv : v.ownBlock with _ | k
    · exact .inl rfl
    · exact .inr (by simp)
  exact h.elim (fun x => .inl (key _ x)) (fun x => .inr (key _ x))
set_option maxRecDepth 100000 in
set_option maxHeartbeats 4000000 in
theorem textS_any {w : World} {B : Nat} {A : Option Addr} {n c : Nat} {l : List AV} (h : ActsAt w B A n c l) (hB : B ≤ w.heap.size) (hn : n ≤ 128) (hs : ∀ a ∈ l, SimpleA a) :
    Calls Tryz.prog 31 #[.slice A n c] w fun e w' => ∃ b : ByteArray, e = .returned (.string b) ∧ b.data.toList = scriptT l ++ wEnd ∧ Below w.heap.size w w' := by
  have hD0 := builder_new21 w
  have hb0 := bel_new w (.cells #[.pointer none, .slice none 0 0] 113)
  have H := Lib.hid h
  have HB := Lib.hid hB
  have HS := Lib.hid hs
  have HD0 := Lib.hid hD0
  have HB0 := Lib.hid hb0
  have HL := Lib.hid h.len
  have HLT0 := Lib.hid (show w.heap.size < (w.alloc (.cells #[.pointer none, .slice none 0 0] 113)).heap.size by simp)
  have hn62 : n ≤ 9223372036854775807 := by omega
  clear h hB hs hD0 hb0
  go_enter Tryz.func31, Tryz.ntmps31
  go_wp2_with (fail)
  go_loopw [11] (fun i wr => ∃ k : Nat, k ≤ n ∧ i = .int .i64 (k : Int) ∧ Aside (Lib.IsBuilderF 113 5 w.heap.size w.heap.size (Lib.byteCells (scriptT (l.take k))) wr) ∧ Aside (Below w.heap.size w wr) ∧ Aside (w.heap.size < wr.heap.size)) (fun i _ => n - (intOf i).toNat)
  case atStart => exact ⟨0, Nat.zero_le _, rfl, HD0.out, HB0.out, HLT0.out⟩
  case round =>
    obtain ⟨k, hk, rfl, hD, hb, hlt0⟩ := hrel
    by_cases hlt : k < n
    · obtain ⟨b, off, rfl, hbB, hl, hcs⟩ := (H.out.below (hb.out.mono HB.out)).cells hlt
      have ha0 := H.out.acts _ (List.getElem_mem hl)
      have hak := (H.out.acts _ (List.getElem_mem hl)).below (hb.out.mono HB.out)
      have hsk := HS.out _ (List.getElem_mem hl)
      have HSC := Lib.hid (scriptT_succ l hl)
      have hsl : (scriptT (l.take k)).length ≤ 384000000 := Nat.le_trans (script_short fun a ha => HS.out a (List.mem_of_mem_take ha)) (by rw [List.length_take]; omega)
      generalize l[k] = a at *
      have hwb : B ≤ wr.heap.size := Nat.le_trans HB.out hb.out.size
      obtain ⟨W1, hW1⟩ : ∃ W1, W1 = wr.alloc (.cells (avArr a) 61) := ⟨_, rfl⟩
      have hb1 : Below wr.heap.size wr W1 := by rw [hW1]; exact bel_new _ _
      have hG1 : Blk W1 wr.heap.size 61 (avArr a) := by rw [hW1]; exact Blk.new _ _ _
      have hmay := mayS_any (w := W1) hsk (hak.below (hb1.mono hwb)) (Nat.le_trans hwb hb1.size)
      have HHD := Lib.hid (fun (W : World) => headS_any (w := W) hsk)
      have hshort := hsk.short
      have HLA := Lib.hid (show lineA a = headA noDec a.act ++ 10 :: bodyA a.act from rfl)
      have HG := Lib.hid (fun (W : World) (hW : Below W1.heap.size W1 W) => hG1.below hW hG1.lt)
      have HWS := Lib.hid (fun (W : World) (hW : Below W1.heap.size W1 W) (s : ByteArray) (t : Txt) (hst : s.data.toList = t) (ht : t.length ≤ 3000000) => ws21 w.heap.size w.heap.size (scriptT (l.take k)) t s hst W (builder_below21 hD.out (hb1.trans (hW.mono hb1.size))) (by omega) (Nat.le_trans hb.out.size (Nat.le_trans hb1.size hW.size)))
      have HB1 := Lib.hid hb1
      have HBW := Lib.hid hb.out
      have HW1 := Lib.hid hW1
      have HLT := Lib.hid hlt0.out
      cases hsk with
      | plain kind name eA ec uA uc uB ud hk9 hn9 hl9 =>
        have c0 : wr.cell? ⟨b, off + k * 9, none⟩ = some (.int .i64 kind) := hcs 0 _ rfl
        have c1 : wr.cell? ⟨b, off + k * 9 + 1, none⟩ = some (.string ⟨name.toArray⟩) := hcs 1 _ rfl
        have c2 : wr.cell? ⟨b, off + k * 9 + 2, none⟩ = some (.string ⟨#[]⟩) := hcs 2 _ rfl
        have c3 : wr.cell? ⟨b, off + k * 9 + 3, none⟩ = some (.int .i64 0) := hcs 3 _ rfl
        have c4 : wr.cell? ⟨b, off + k * 9 + 4, none⟩ = some (.slice eA 0 ec) := hcs 4 _ rfl
        have c5 : wr.cell? ⟨b, off + k * 9 + 5, none⟩ = some (.string ⟨#[]⟩) := hcs 5 _ rfl
        have c6 : wr.cell? ⟨b, off + k * 9 + 6, none⟩ = some (.string ⟨#[]⟩) := hcs 6 _ rfl
        have c7 : wr.cell? ⟨b, off + k * 9 + 7, none⟩ = some (.slice uA 0 uc) := hcs 7 _ rfl
        have c8 : wr.cell? ⟨b, off + k * 9 + 8, none⟩ = some (.slice uB 0 ud) := hcs 8 _ rfl
        have HBD := Lib.hid (show bodyA (⟨kind, name, ev1 eA ec, sv1 uA uc uB ud⟩ : AV).act = [] by unfold bodyA; rcases hk9 with rfl | rfl | rfl <;> rfl)
        have hk4 : (kind == 4) = false := by rcases hk9 with rfl | rfl | rfl <;> rfl
        have hk6 : (kind == 6) = false := by rcases hk9 with rfl | rfl | rfl <;> rfl
        obtain ⟨TXT, hTX⟩ : ∃ T, T = headA noDec (⟨kind, name, ev1 eA ec, sv1 uA uc uB ud⟩ : AV).act ++ [10] := ⟨_, rfl⟩
        have HTX := Lib.hid hTX
        have HTS := Lib.hid (show TXT.length ≤ 3000000 by rw [hTX]; have := hshort; rw [HLA.out, HBD.out] at this; simpa using this)
        have HFIN := Lib.hid (show scriptT (l.take (k + 1)) = scriptT (l.take k) ++ TXT by rw [HSC.out, HLA.out, HBD.out, hTX])
        rw [hW1] at hmay
        unfold avArr ev1 sv1 at hmay HG HHD
        simp only at hmay HG HHD
        clear hcs hak ha0 hG1 hW1 hb1 hb hD hlt0 hshort hk9 hn9 hTX
        go_wp2_with (first
          | (go_at_call 69; refine hmay.mono ?_; clear hmay; rintro e2 w2 ⟨rfl, hb2⟩; have hb2' := (show Below W1.heap.size W1 w2 by rw [HW1.out]; exact hb2); obtain ⟨y0, y1, y2, y3, y4, y5, y6, y7, y8⟩ := nine_of (HG.out w2 hb2'); have hhd := HHD.out w2; have HB2 := Lib.hid hb2'; clear hb2 hb2')
          | (go_at_call 71; refine hhd.mono ?_; clear hhd; rintro e3 w3 ⟨hs3, rfl, hd3, hz3, hb3⟩; have hb3' := HB2.out.trans (hb3.mono HB2.out.size); have q9 : ¬ 9223372036854775807 < hs3.size + 1 := (by omega); have hws := HWS.out w3 hb3' (hs3 ++ ⟨#[10]⟩) TXT ((head_line hd3).trans HTX.out.symm) HTS.out; have HB3 := Lib.hid hb3'; clear hb3 hb3' hd3)
          | (go_at_call 70; refine hws.mono ?_; clear hws; rintro e4 w4 ⟨rfl, hd4, hb4, hk4⟩; obtain ⟨z0, z1, z2, z3, z4, z5, z6, z7, z8⟩ := nine_of (blk_others (HG.out w3 HB3.out) hk4 (by have := HLT.out; omega) (by decide)); have HD4 := Lib.hid hd4; have HBZ := Lib.hid (show w3.heap.size ≤ w4.heap.size from hb4.size); have HB4 := Lib.hid ((HBW.out.trans (HB1.out.mono HBW.out.size)).trans ((HB3.out.mono (Nat.le_trans HBW.out.size HB1.out.size)).trans hb4)); clear hb4 hk4 hd4))
        have hsz := HB3.out.size
        exact ⟨⟨k + 1, by omega, by go_num, (show Lib.IsBuilderF _ _ _ _ _ _ by rw [HFIN.out]; exact HD4.out), HB4.out, by have h1 := HLT.out; have h2 := HB1.out.size; have h3 := HBZ.out; exact (show w.heap.size < w4.heap.size by omega)⟩, by simp [intOf]; omega⟩
      | unit u eA ec hm hs9 hl9 =>
        have c0 : wr.cell? ⟨b, off + k * 9, none⟩ = some (.int .i64 6) := hcs 0 _ rfl
        have c1 : wr.cell? ⟨b, off + k * 9 + 1, none⟩ = some (.string ⟨u.name.toArray⟩) := hcs 1 _ rfl
        have c2 : wr.cell? ⟨b, off + k * 9 + 2, none⟩ = some (.string ⟨#[]⟩) := hcs 2 _ rfl
        have c3 : wr.cell? ⟨b, off + k * 9 + 3, none⟩ = some (.int .i64 0) := hcs 3 _ rfl
        have c4 : wr.cell? ⟨b, off + k * 9 + 4, none⟩ = some (.slice eA 0 ec) := hcs 4 _ rfl
        have c5 : wr.cell? ⟨b, off + k * 9 + 5, none⟩ = some (.string ⟨u.name.toArray⟩) := hcs 5 _ rfl
        have c6 : wr.cell? ⟨b, off + k * 9 + 6, none⟩ = some (.string ⟨u.start.toArray⟩) := hcs 6 _ rfl
        have c7 : wr.cell? ⟨b, off + k * 9 + 7, none⟩ = some (.slice u.A u.n u.c) := hcs 7 _ rfl
        have c8 : wr.cell? ⟨b, off + k * 9 + 8, none⟩ = some (.slice u.A2 u.n2 u.c2) := hcs 8 _ rfl
        have HBD := Lib.hid (show bodyA (⟨6, u.name, ev1 eA ec, u⟩ : AV).act = linesU u.srv from rfl)
        obtain ⟨TXT, hTX⟩ : ∃ T, T = headA noDec (⟨6, u.name, ev1 eA ec, u⟩ : AV).act ++ [10] := ⟨_, rfl⟩
        have HTX := Lib.hid hTX
        have HTS := Lib.hid (show TXT.length ≤ 3000000 by rw [hTX]; have := hshort; rw [HLA.out, HBD.out] at this; simp at this ⊢; omega)
        have HFIN := Lib.hid (show scriptT (l.take (k + 1)) = scriptT (l.take k) ++ TXT ++ linesU u.srv by rw [HSC.out, HLA.out, HBD.out, hTX]; simp)
        have HUN := Lib.hid (fun (W : World) (hW : Below w.heap.size w W) => unit21_any (w := W) u (ha0.req.below (hW.mono HB.out)) (ha0.aft.below (hW.mono HB.out)) (Nat.le_trans HB.out hW.size) hs9)
        rw [hW1] at hmay
        unfold avArr ev1 at hmay HG HHD
        simp only at hmay HG HHD
        clear hcs hak ha0 hG1 hW1 hb1 hb hD hlt0 hshort hTX
        go_wp2_with (first
          | (go_at_call 69; refine hmay.mono ?_; clear hmay; rintro e2 w2 ⟨rfl, hb2⟩; have hb2' := (show Below W1.heap.size W1 w2 by rw [HW1.out]; exact hb2); obtain ⟨y0, y1, y2, y3, y4, y5, y6, y7, y8⟩ := nine_of (HG.out w2 hb2'); have hhd := HHD.out w2; have HB2 := Lib.hid hb2'; clear hb2 hb2')
          | (go_at_call 71; refine hhd.mono ?_; clear hhd; rintro e3 w3 ⟨hs3, rfl, hd3, hz3, hb3⟩; have hb3' := HB2.out.trans (hb3.mono HB2.out.size); have q9 : ¬ 9223372036854775807 < hs3.size + 1 := (by omega); have hws := HWS.out w3 hb3' (hs3 ++ ⟨#[10]⟩) TXT ((head_line hd3).trans HTX.out.symm) HTS.out; have HB3 := Lib.hid hb3'; clear hb3 hb3' hd3)
          | (go_at_call 70; refine hws.mono ?_; clear hws; rintro e4 w4 ⟨rfl, hd4, hb4, hk4⟩; obtain ⟨z0, z1, z2, z3, z4, z5, z6, z7, z8⟩ := nine_of (blk_others (HG.out w3 HB3.out) hk4 (by have := HLT.out; omega) (by decide)); have HD4 := Lib.hid hd4; have HBZ := Lib.hid (show w3.heap.size ≤ w4.heap.size from hb4.size); have HB4 := Lib.hid ((HBW.out.trans (HB1.out.mono HBW.out.size)).trans ((HB3.out.mono (Nat.le_trans HBW.out.size HB1.out.size)).trans hb4)); have hun := HUN.out w4 HB4.out; unfold svArr at hun; clear hb4 hk4 hd4)
          | (go_at_call 73; refine hun.mono ?_; clear hun; rintro e5 w5 ⟨rfl, hb5⟩; have hws2 := ws21 w.heap.size w.heap.size (scriptT (l.take k) ++ TXT) (linesU u.srv) ⟨(linesU u.srv).toArray⟩ (by simp) w5 (builder_below21 HD4.out hb5) (by rw [List.length_append]; have := HTS.out; omega) (Nat.le_trans HB4.out.size hb5.size); have HB5 := Lib.hid (HB4.out.trans (hb5.mono HB4.out.size)); have HZ5 := Lib.hid (show w4.heap.size ≤ w5.heap.size from hb5.size); clear hb5)
          | (go_at_call 70; refine hws2.mono ?_; clear hws2; rintro e6 w6 ⟨rfl, hd6, hb6, hk6⟩; have HD6 := Lib.hid hd6; have HB6 := Lib.hid (HB5.out.trans hb6); have HZ6 := Lib.hid (show w5.heap.size ≤ w6.heap.size from hb6.size); clear hb6 hk6 hd6))
        have hsz := HB3.out.size
        exact ⟨⟨k + 1, by omega, by go_num, (show Lib.IsBuilderF _ _ _ _ _ _ by rw [HFIN.out]; exact HD6.out), HB6.out, by have h1 := HLT.out; have h2 := HB1.out.size; have h3 := HBZ.out; have h4 := HZ5.out; have h5 := HZ6.out; exact (show w.heap.size < w6.heap.size by omega)⟩, by simp [intOf]; omega⟩
    · obtain rfl : k = n := by omega
      have HT := Lib.hid (show l.take k = l by rw [List.take_of_length_le (by have := HL.out; omega)])
      have hd9 := hD.out
      rw [HT.out] at hd9
      have hst := Tryz.Builder_String_any_k w.heap.size w.heap.size _ wr hd9 hb.out.size
      have HSS := Lib.hid (show (scriptT l).length ≤ 384000000 from Nat.le_trans (script_short fun a ha => HS.out a ha) (by have := HL.out; omega))
      have HBB := Lib.hid hb.out
      have q9 : ¬ 9223372036854775807 < (scriptT l).length + 4 := by have := HSS.out; omega
      clear hd9 hD hb hlt0
      go_wp2_with (go_at_call 74; refine hst.mono ?_; clear hst; rintro e7 w7 ⟨rfl, hd7, hb7, hk7⟩; have HB7 := Lib.hid (HBB.out.trans hb7); clear hd7 hb7 hk7)
      go_ret
      exact ⟨_, rfl, by simp [wEnd], HB7.out⟩
end Go.Proofs.YtibndaianhlcaaaGreatDoor
namespace Go.Proofs.YtibndaianhlcaaaGreatDoor
open Go.RowKit Go.Sort Go.Shelf
open Go.WideShapes (bytes_inj)
set_option linter.unusedVariables false
set_option linter.unusedSimpArgs false

/-- A number's digits. -/
def decI (n : Nat) : Txt := Lib.itoa (n : Int)
set_option maxRecDepth 100000 in
set_option maxHeartbeats 2000000 in
theorem headP_any {w : World} (a : AV) (hk : a.kind = 1 ∨ a.kind = 2 ∨ a.kind = 3 ∨ a.kind = 5 ∨ a.kind = 6) (hn : a.name.length ≤ 1048576) :
    Calls Tryz.prog 71 #[.agg (avArr a)] w fun e w' => ∃ b : ByteArray, e = .returned (.string b) ∧ b.data.toList = headA decI a.act ∧ b.size ≤ 2100000 ∧ Below w.heap.size w w' := by
  have hb := bel_new w (.cells (avArr a) 61)
  obtain ⟨kind, name, f, u⟩ := a
  unfold avArr at hb ⊢
  simp only at hb hk hn ⊢
  have q1 : ¬ 9223372036854775807 < 5 + name.length := by omega
  have q2 : ¬ 9223372036854775807 < 6 + name.length := by omega
  have q3 : ¬ 9223372036854775807 < 7 + name.length := by omega
  have hsz : (⟨name.toArray⟩ : ByteArray).size = name.length := bsz_mk name
  rcases hk with rfl | rfl | rfl | rfl | rfl
  all_goals
    go_enter Tryz.func71, Tryz.ntmps71
    go_wp2_with (fail)
    go_ret
    refine ⟨_, rfl, by simp [headA, AV.act, wStop, wRemove, wDrop, wUser, wStart], ?_, hb⟩
    rw [ByteArray.size_append, hsz]
    first
      | (show 5 + name.length ≤ _; omega)
      | (show 6 + name.length ≤ _; omega)
      | (show 7 + name.length ≤ _; omega)
set_option maxRecDepth 100000 in
set_option maxHeartbeats 2000000 in
theorem headF_any {w : World} (a : AV) (hk : a.kind = 4) (hp : a.file.path.length ≤ 1048576) (hd : a.file.data.length = a.file.n) (hi : ItoaOk w (a.file.n : Int)) :
    Calls Tryz.prog 71 #[.agg (avArr a)] w fun e w' => ∃ b : ByteArray, e = .returned (.string b) ∧ b.data.toList = headA decI a.act ∧ b.size ≤ 2100000 ∧ Below w.heap.size w w' := by
  have hb := bel_new w (.cells (avArr a) 61)
  have hG := Blk.new w 61 (avArr a)
  have HIT := Lib.hid (fun W h => hi.run W h)
  have hsh := hi.short
  have HHD := Lib.hid (show headA decI a.act = wFile ++ 32 :: (if a.file.kind = 3 then [108, 32] else [102, 32]) ++ a.file.path ++ 32 :: Lib.itoa (a.file.n : Int) by
    unfold headA
    have k4 : a.act.kind = 4 := hk
    rw [k4, if_neg (by decide), if_neg (by decide), if_neg (by decide), if_neg (by decide), if_neg (by decide)]
    show _ = wFile ++ 32 :: (if a.file.kind = 3 then [108, 32] else [102, 32]) ++ a.file.path ++ 32 :: Lib.itoa (a.file.n : Int)
    rw [← hd]
    rfl)
  obtain ⟨kind, name, ⟨p, fk, fd, fA, fn, fc⟩, u⟩ := a
  simp only at hk hp hd HHD HIT hsh
  subst hk
  have c0 := hG.drew.cell 2
  have c1 := hG.drew.cell 4
  have c3 := hG.cell 3
  have HBL := Lib.hid hb
  have HG := Lib.hid (fun (W : World) (hW : Below (w.alloc (.cells (avArr ⟨4, name, ⟨p, fk, fd, fA, fn, fc⟩, u⟩) 61)).heap.size (w.alloc (.cells (avArr ⟨4, name, ⟨p, fk, fd, fA, fn, fc⟩, u⟩) 61)) W) => show W.cell? ⟨w.heap.size, 2, none⟩ = some (.string ⟨p.toArray⟩) ∧ W.cell? ⟨w.heap.size, 4, none⟩ = some (.slice fA fn fc) from ⟨(hG.below hW hG.lt).cell 2, (hG.below hW hG.lt).cell 4⟩)
  have hG0 := HG.out _ (Below.refl _ _).drew
  have hit := HIT.out _ (hb.trans ((Below.refl _ _).drew.mono hb.size))
  obtain ⟨ds, hds⟩ : ∃ ds, ds = Lib.itoa (fn : Int) := ⟨_, rfl⟩
  rw [← hds] at HHD hit hsh
  unfold avArr at hb hG0 hit ⊢
  simp only at hb hG0 hit ⊢
  have s1 : (⟨p.toArray⟩ : ByteArray).size = p.length := bsz_mk p
  have s2 : (⟨ds.toArray⟩ : ByteArray).size = ds.length := bsz_mk ds
  have q1 : ¬ 9223372036854775807 < 7 + p.length := by omega
  have q2 : ¬ 9223372036854775807 < 7 + p.length + 1 := by omega
  have q3 : ¬ 9223372036854775807 < 7 + p.length + 1 + ds.length := by omega
  clear hG hi hds hd c0 c1 c3
  by_cases h3 : fk = 3
  · have hk3 : (fk == 3) = true := by rw [beq_iff_eq]; exact h3
    have HX := Lib.hid (HHD.out.trans (by rw [if_pos h3]))
    clear h3
    go_enter Tryz.func71, Tryz.ntmps71
    go_upto_region 15 with (fail)
    go_region_held (fun W' => W'.cell? ⟨w.heap.size, 2, none⟩ = some (.string ⟨p.toArray⟩) ∧ W'.cell? ⟨w.heap.size, 4, none⟩ = some (.slice fA fn fc)) (first | exact HC3.out | exact hG0) (first
      | (go_at_call 102; refine hit.mono ?_; clear hit; rintro e3 w3 ⟨rfl, hb3⟩; have HB3 := Lib.hid ((Below.refl _ _).drew.trans hb3); have HC3 := Lib.hid (HG.out _ HB3.out); clear hb3))
    all_goals go_wp2_with (fail)
    all_goals go_ret
    all_goals
      refine ⟨_, rfl, ?_, ?_, HBL.out.trans (HB3.out.mono HBL.out.size)⟩
      · rw [HX.out]
        simp [wFile]
      · simp only [ByteArray.size_append, s1, s2]
        show _ ≤ 2100000
        first
          | (show 7 + p.length + 1 + ds.length ≤ _; omega)
          | (simp; omega)
  · have hk3 : (fk == 3) = false := by rw [beq_eq_false_iff_ne]; exact h3
    have HX := Lib.hid (HHD.out.trans (by rw [if_neg h3]))
    clear h3
    go_enter Tryz.func71, Tryz.ntmps71
    go_upto_region 15 with (fail)
    go_region_held (fun W' => W'.cell? ⟨w.heap.size, 2, none⟩ = some (.string ⟨p.toArray⟩) ∧ W'.cell? ⟨w.heap.size, 4, none⟩ = some (.slice fA fn fc)) (first | exact HC3.out | exact hG0) (first
      | (go_at_call 102; refine hit.mono ?_; clear hit; rintro e3 w3 ⟨rfl, hb3⟩; have HB3 := Lib.hid ((Below.refl _ _).drew.trans hb3); have HC3 := Lib.hid (HG.out _ HB3.out); clear hb3))
    all_goals go_wp2_with (fail)
    all_goals go_ret
    all_goals
      refine ⟨_, rfl, ?_, ?_, HBL.out.trans (HB3.out.mono HBL.out.size)⟩
      · rw [HX.out]
        simp [wFile]
      · simp only [ByteArray.size_append, s1, s2]
        show _ ≤ 2100000
        first
          | (show 7 + p.length + 1 + ds.length ≤ _; omega)
          | (simp; omega)
end Go.Proofs.YtibndaianhlcaaaGreatDoor
namespace Go.Proofs.YtibndaianhlcaaaGreatDoor
open Go.RowKit
set_option linter.unusedVariables false
set_option linter.unusedSimpArgs false

theorem run_appendF_zero {P : Program} {w : World} (base : Nat) (t ty e : TypeId) (i : TypeInfo) (size : Nat) (ht : P.underlying t = some (.slice e)) (hi : P.info? e = some i)
    (v : Value) (n : Nat) (xs : List Value) (hown : w.ownsRowF base e size v n xs) (c : Nat) :
    (Builtin.append_ #[t, t] ty #[v, .slice none 0 c]).run P w = .ok v w := by
  rcases hown.2 with ⟨rfl, rfl⟩ | ⟨g, cap, cur, fz, rfl, _, _, _, hnc, _⟩
  · simp [Builtin.append_, run_underlying ht, sizeOf, typeInfo, hi, Builtin.lenOf, Builtin.firstCells]
  · simp [Builtin.append_, run_underlying ht, sizeOf, typeInfo, hi, Builtin.lenOf, Builtin.firstCells, hnc, storeCells]
set_option maxRecDepth 100000 in
/-- Bytes behind a builder's. -/
theorem appF_bytes {w : World} {B : Nat} {v : Value} {bs : List Value} (hown : w.ownsRowF B 5 1 v bs.length bs) {B' : Nat} {A : Option Addr} {n c : Nat} {d : Txt} (hS : Slc w B' 1 A n c (d.map bv)) (hlen : bs.length + n ≤ 140737488355328) (hB : B ≤ w.heap.size) :
    ∃ v' w', (Builtin.append_ #[33, 33] 33 #[v, .slice A n c]).run Tryz.prog w = .ok v' w' ∧ w'.ownsRowF B 5 1 v' (bs.length + n) (bs ++ d.map bv) ∧ w.grownBy w' v.ownBlock := by
  obtain ⟨i0, hi, hz0, hz1, hz2⟩ := info_parts byte_info
  have hdl : (d.map bv).length = n * 1 := hS.len
  cases A with
  | none =>
    have hn0 : n = 0 := by
      rcases Nat.eq_zero_or_pos n with h0 | h0
      · exact h0
      · obtain ⟨b, off, e, _⟩ := hS.at_ h0
        cases e
    subst hn0
    have hd : d = [] := by simpa using hdl
    subst hd
    refine ⟨v, w, run_appendF_zero B _ _ _ i0 1 Tryz.underlying33 hi v _ bs hown c, by simpa using hown, ?_⟩
    exact ⟨rfl, rfl, rfl, Nat.le_refl _, fun _ _ _ => rfl⟩
  | some a =>
    obtain ⟨v', w', r1, r2, r3, _⟩ := run_append_ownF (P := Tryz.prog) (w := w) B 33 33 5 i0 _ 1 1 Tryz.underlying33 hi hz0 hz1 hz2 rfl (by decide) v bs.length bs hown a n c (d.map bv) hdl (fun j u hu => by
      have hn : 0 < n := by have := (List.getElem?_eq_some_iff.1 hu).1; omega
      obtain ⟨b, off, e, _, hc⟩ := hS.at_ hn
      injection e with e
      subst e
      have h9 := hc j u hu
      have h8 : (⟨b, off, none⟩ : Addr).add j = ⟨b, off + j, none⟩ := by
        unfold Addr.add
        by_cases hj : j = 0
        · rw [if_pos hj, hj]; rfl
        · rw [if_neg hj]
      rw [h8]
      exact h9) (fun u hu => by obtain ⟨x, _, rfl⟩ := List.mem_map.1 hu; rfl) (by unfold maxLen; omega) (by omega) hB
    exact ⟨v', w', r1, r2, r3⟩
set_option maxRecDepth 100000 in
theorem wb_any (B b : Nat) (bs : List Value) (w : World) (h : Lib.IsBuilderF 113 5 B b bs w) {B' : Nat} {A : Option Addr} {n c : Nat} {d : Txt} (hS : Slc w B' 1 A n c (d.map bv)) (hB' : B' ≤ B) (hlen : bs.length + n ≤ 140737488355328) (hBw : B ≤ w.heap.size) :
    Calls Tryz.prog 72 #[.pointer (some ⟨b, 0, none⟩), .slice A n c] w fun e w' => e = .returned (.tuple #[.int .i64 n, .nilIface]) ∧ Lib.IsBuilderF 113 5 B b (bs ++ d.map bv) w' ∧ Below B w w' ∧ Lib.OthersKept 5 (some b) w w' := by
  have hck := check_any B b bs w h
  have hdl : (d.map bv).length = n := by have := hS.len; simpa using this
  go_enter Tryz.func72, Tryz.ntmps72
  go_wp2_with (go_at_call 101; refine hck.mono ?_)
  rintro e w1 ⟨rfl, h1, hb1, hk1⟩
  obtain ⟨hB, v, hbk, hown, hne⟩ := h1
  have c0 : w1.cell? ⟨b, 0, none⟩ = some (.pointer (some ⟨b, 0, none⟩)) := by rw [Lib.cell_of_heap hbk]; rfl
  have c1 : w1.cell? ⟨b, 1, none⟩ = some v := by rw [Lib.cell_of_heap hbk]; rfl
  obtain ⟨v', w2, hrun, hown', hgrow⟩ := appF_bytes hown (hS.below (hb1.mono hB')) hlen (Nat.le_trans hBw hb1.size)
  have hlt : b < w1.heap.size := by
    rcases Nat.lt_or_ge b w1.heap.size with h' | h'
    · exact h'
    · simp [Array.getElem?_eq_none h'] at hbk
  have hb2 : w2.heap[b]? = some (.cells #[.pointer (some ⟨b, 0, none⟩), v] 113 (0, 0)) := by
    rw [hgrow.block b hlt (fun e => hne e.symm)]
    exact hbk
  have d0 : w2.cell? ⟨b, 0, none⟩ = some (.pointer (some ⟨b, 0, none⟩)) := by rw [Lib.cell_of_heap hb2]; rfl
  have d1 : w2.cell? ⟨b, 1, none⟩ = some v := by rw [Lib.cell_of_heap hb2]; rfl
  have f1 : w2.frozen? ⟨b, 1, none⟩ = false := Lib.frozen_of_heap hb2 1
  obtain ⟨ao, n', cap, rfl⟩ : ∃ ao n' cap, v' = .slice ao n' cap := by
    rcases hown'.2 with ⟨hv, _⟩ | ⟨g, cap, cur, fz, hv, _⟩
    · exact ⟨_, _, _, hv⟩
    · exact ⟨_, _, _, hv⟩
  have HF := Lib.hid (show Lib.IsBuilderF 113 5 B b (bs ++ d.map bv) (w2.setCell ⟨b, 1, none⟩ (.slice ao n' cap)) from .inr (Lib.BuilderAtF.put (T := 113) (e := 5) hB hb2 (bs' := bs ++ d.map bv) (by rw [List.length_append, hdl]; exact hown') byte_ne_builder))
  have HBL := Lib.hid (show Below B w (w2.setCell ⟨b, 1, none⟩ (.slice ao n' cap)) from (hb1.grown hgrow (by have := hb1.size; omega) (fun k hk => (hown.lt k hk).1)).setCell (p := ⟨b, 1, none⟩) hB _)
  have HOK := Lib.hid ((hk1.grown hgrow (Lib.ownsRowF_kind hown)).setCell ⟨b, 1, none⟩ rfl (.slice ao n' cap))
  clear hbk hown hne hown' hgrow hb2 hS h hk1 hb1
  go_wp2_with (at_builtin; refine wpList_append_run rfl _ _ _ rfl rfl rfl hrun ?_; clear hrun)
  go_ret2
  exact ⟨rfl, HF.out, HBL.out, HOK.out⟩
end Go.Proofs.YtibndaianhlcaaaGreatDoor
