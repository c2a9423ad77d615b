/- tree.Parse. -/
import Derived.Test.YtdhlklidenfbeaaGreatDoorParseNS
import Derived.Test.YtdhlklidenfbeaaGreatDoorTab
namespace Go.Proofs.YtdhlklidenfbeaaGreatDoor
open Go.RowKit Go.Shelf
set_option linter.unusedVariables false
set_option linter.unusedSimpArgs false

/-- What is known at the loop's test. -/
structure LoopOk (wr : World) (base B : Nat) (b : Txt) (es : List EV) (A : Option Addr) (m c : Nat) (line rest : Txt) (A2 : Option Addr) (n2 c2 : Nat) : Prop where
  own : OwnEnts wr base (.slice A m c) m es
  text : TextIn wr B A2 n2 c2 rest
  small : m ≤ 25
  short : line.length ≤ 2000000
  shortr : n2 ≤ 2000000
  paths : ∀ e ∈ es, e.path.length ≤ 2000000
  says : ∀ l, rightB l = true → bytesB l = b → (line ≠ [101, 110, 100] ∧ m ≤ l.length ∧ rest = restT l m ∧ es.map EV.ent = l.take m) ∨ (line = [101, 110, 100] ∧ es.map EV.ent = l)
def LoopRel (w wr : World) (B : Nat) (b : Txt) (line rest : Value) (ok : Value) (out : Value) : Prop :=
  Below w.heap.size w wr ∧ ((∃ t A2 n2 c2 A m c, line = .string ⟨List.toArray t⟩ ∧ rest = .slice A2 n2 c2 ∧ out = .slice A m c ∧ ok = .bool false ∧ ∀ l, rightB l = true → bytesB l ≠ b) ∨
    (∃ t r es A m c A2 n2 c2, line = .string ⟨List.toArray t⟩ ∧ rest = .slice A2 n2 c2 ∧ out = .slice A m c ∧ ok = .bool true ∧ LoopOk wr w.heap.size B b es A m c t r A2 n2 c2))
theorem lineR_len (s : Txt) : (lineR s).1.length ≤ s.length ∧ (lineR s).2.1.length ≤ s.length := by
  unfold lineR
  cases h : lineB s with
  | none => simp
  | some x =>
    obtain ⟨e, _⟩ := lineB_some s x.1 x.2 h
    simp only
    rw [e]
    simp
    omega
/-- What the first line leaves. -/
theorem loop_start {w w' : World} {B : Nat} {b : Txt} (hlen : b.length ≤ 2000000) {A2 : Option Addr} {n2 c2 : Nat} (hT : TextIn w' B A2 n2 c2 (lineR b).2.1) (hb : Below w.heap.size w w') :
    LoopRel w w' B b (.string ⟨(lineR b).1.toArray⟩) (.slice A2 n2 c2) (.bool (lineR b).2.2) (.slice none 0 0) := by
  refine ⟨hb, ?_⟩
  cases hok : (lineR b).2.2 with
  | false =>
    refine .inl ⟨_, A2, n2, c2, none, 0, 0, rfl, rfl, rfl, rfl, fun l hl e => ?_⟩
    rw [← e, stand_head hl] at hok
    cases hok
  | true =>
    have hl2 := lineR_len b
    refine .inr ⟨_, _, [], none, 0, 0, A2, n2, c2, rfl, rfl, rfl, rfl, ⟨OwnEnts.nil _ _, hT, by decide, by omega, by have := hT.len; omega, (fun e he => by cases he), fun l hl e => .inl ?_⟩⟩
    rw [← e, stand_head hl]
    exact ⟨by simp, Nat.zero_le _, rfl, by simp⟩
def ParsePost (w : World) (b : Txt) : Ending → World → Prop := fun e w' => Below w.heap.size w w' ∧
  ((∃ es A m c, e = .returned (.tuple #[.slice A m c, .int .i64 0]) ∧ OwnEnts w' w.heap.size (.slice A m c) m es ∧ rightB (es.map EV.ent) = true ∧ bytesB (es.map EV.ent) = b) ∨
   (e = .returned (.tuple #[.slice none 0 0, .int .i64 63]) ∧ ∀ l, rightB l = true → bytesB l ≠ b))
theorem loop_says {wr : World} {base B : Nat} {b : Txt} {es : List EV} {A : Option Addr} {m c : Nat} {t r : Txt} {A2 : Option Addr} {n2 c2 : Nat} (hL : LoopOk wr base B b es A m c t r A2 n2 c2) (hne : t ≠ [101, 110, 100]) :
    ∀ l, rightB l = true → bytesB l = b → Stand l m (lineR r).1 (lineR r).2.1 (lineR r).2.2 ∧ es.map EV.ent = l.take m := by
  intro l hl e
  rcases hL.says l hl e with ⟨_, h1, h2, h3⟩ | ⟨h1, _⟩
  · rw [h2]
    exact ⟨stand_line hl h1, h3⟩
  · exact absurd h1 hne
theorem loop_bad {wr : World} {base B : Nat} {b : Txt} {es : List EV} {A : Option Addr} {m c : Nat} {t r : Txt} {A2 : Option Addr} {n2 c2 : Nat} (hL : LoopOk wr base B b es A m c t r A2 n2 c2) (hne : t ≠ [101, 110, 100])
    (hf : (lineR r).2.2 = false) : ∀ l, rightB l = true → bytesB l ≠ b := fun l hl e => by
  have h := (loop_says hL hne l hl e).1.2.1
  rw [hf] at h
  cases h
theorem loop_ended {wr w2 : World} {base B : Nat} {b : Txt} {es : List EV} {A : Option Addr} {m c : Nat} {t r : Txt} {A2 A3 : Option Addr} {n2 c2 n3 c3 : Nat} (hL : LoopOk wr base B b es A m c t r A2 n2 c2) (hne : t ≠ [101, 110, 100])
    (hT : TextIn w2 B A3 n3 c3 (lineR r).2.1) (hb : Below wr.heap.size wr w2) (he : (lineR r).1 = [101, 110, 100]) : LoopOk w2 base B b es A m c (lineR r).1 (lineR r).2.1 A3 n3 c3 := by
  have h1 := lineR_len r
  have h2 := hL.text.len
  have h3 := hL.shortr
  have h4 := hT.len
  refine ⟨hL.own.below hb, hT, hL.small, by omega, by omega, hL.paths, fun l hl e => .inr ⟨he, ?_⟩⟩
  obtain ⟨hs, ht⟩ := loop_says hL hne l hl e
  rw [ht]
  exact (stand_end hs he).1
theorem loop_fail {wr : World} {base B : Nat} {b : Txt} {es : List EV} {A : Option Addr} {m c : Nat} {t r : Txt} {A2 : Option Addr} {n2 c2 : Nat} (hL : LoopOk wr base B b es A m c t r A2 n2 c2) (hne : t ≠ [101, 110, 100])
    (he : (lineR r).1 ≠ [101, 110, 100]) (hf : entryR (lineR r).1 (lineR r).2.1 = none) : ∀ l, rightB l = true → bytesB l ≠ b := fun l hl e => by
  obtain ⟨_, h, _⟩ := stand_entry hl (loop_says hL hne l hl e).1 he
  rw [hf] at h
  cases h
theorem loop_next {wr w6 : World} {base B : Nat} {b : Txt} {es : List EV} {A A' : Option Addr} {m c c' : Nat} {t r r4 : Txt} {A2 A4 : Option Addr} {n2 c2 n4 c4 : Nat} (hL : LoopOk wr base B b es A m c t r A2 n2 c2) (hne : t ≠ [101, 110, 100])
    (he : (lineR r).1 ≠ [101, 110, 100]) {ev : EV} (hx : entryR (lineR r).1 (lineR r).2.1 = some (ev.ent, r4)) (hown : OwnEnts w6 base (.slice A' (m + 1) c') (m + 1) (es ++ [ev])) (hT : TextIn w6 B A4 n4 c4 r4) (hm : m ≤ 24) :
    LoopOk w6 base B b (es ++ [ev]) A' (m + 1) c' (lineR r).1 r4 A4 n4 c4 := by
  have h1 := lineR_len r
  have h2 := hL.text.len
  have h3 := hL.shortr
  have h5 := entryR_path hx
  have h6 := hL.short
  have h7 := hT.len
  refine ⟨hown, hT, by omega, by omega, by omega, fun e he => ?_, fun l hl e => .inl ?_⟩
  · rcases List.mem_append.1 he with he | he
    · exact hL.paths e he
    · rw [List.mem_singleton.1 he]
      have : ev.path.length ≤ (lineR r).1.length := h5.1
      omega
  obtain ⟨hs, ht⟩ := loop_says hL hne l hl e
  obtain ⟨hk, h, htk⟩ := stand_entry hl hs he
  rw [hx] at h
  injection h with h
  injection h with h8 h9
  refine ⟨he, hk, h9, ?_⟩
  rw [List.map_append, ht, htk]
  simp [h8]
theorem loop_exit {wr : World} {base B : Nat} {b : Txt} {es : List EV} {A : Option Addr} {m c : Nat} {t r : Txt} {A2 : Option Addr} {n2 c2 : Nat} (hL : LoopOk wr base B b es A m c t r A2 n2 c2) (h : t = [101, 110, 100] ∨ 24 < m) :
    ∀ l, rightB l = true → bytesB l = b → es.map EV.ent = l := fun l hl e => by
  rcases hL.says l hl e with ⟨h1, h2, _⟩ | ⟨_, h1⟩
  · have := (rightB_len hl).1
    rcases h with h | h
    · exact absurd h h1
    · omega
  · exact h1
def loopMeas (line ok out : Value) : Nat := match ok, out, line with
  | .bool true, .slice _ m _, .string s => 2 * (26 - m) + (if s.data.toList = [101, 110, 100] then 0 else 1)
  | _, _, _ => 0
theorem equal_any {w : World} {B B' : Nat} {A A' : Option Addr} {n n' c c' : Nat} {s t : Txt} (h : Slc w B 1 A n c (s.map bv)) (h' : Slc w B' 1 A' n' c' (t.map bv)) {x : Bool} (hx : (s == t) = x) :
    Calls Tryz.prog 42 #[.slice A n c, .slice A' n' c'] w fun e w' => e = .returned (.bool x) ∧ w' = w := by
  have h1 := convert_bytes (P := Tryz.prog) (src := 32) Tryz.underlying32 Tryz.underlying5 h 9 Tryz.underlying9
  have h2 := convert_bytes (P := Tryz.prog) (src := 32) Tryz.underlying32 Tryz.underlying5 h' 9 Tryz.underlying9
  have h3 := Tryz.bytes_Equal_strs _ _ _ _ w h1 h2
  rwa [Go.ByteArray.toList_eq, Go.ByteArray.toList_eq, hx] at h3
set_option maxRecDepth 100000 in
set_option maxHeartbeats 4000000 in
theorem tparse_any {w : World} {B : Nat} {A : Option Addr} {n c : Nat} {b : Txt} (h : TextIn w B A n c b) (hB : B ≤ w.heap.size) (hn : n ≤ 2000000) (hm : MaxOk w) (ha : AtoiOk w) (ht : TabOk w) :
    Calls Tryz.prog 16 #[.slice A n c] w (ParsePost w b) := by
  have hbl := h.len
  have HL := Lib.hid (line_any h hB (by omega) hm)
  have HST := Lib.hid (fun (w' : World) A2 n2 c2 (hT : TextIn w' B A2 n2 c2 (lineR b).2.1) (hb : Below w.heap.size w w') => loop_start (by omega) hT hb)
  have H := Lib.hid h
  have HB := Lib.hid hB
  have HN := Lib.hid hn
  have HMAX := Lib.hid hm
  have HAT := Lib.hid ha
  have HTAB := Lib.hid ht
  clear h hB hn hm ha ht
  go_enter Tryz.func16, Tryz.ntmps16
  go_wp2_with (go_at_call 40; refine HL.out.mono ?_; clear HL; rintro e w1 ⟨A2, n2, c2, rfl, hT1, hb1⟩; have hst := Lib.hid (HST.out w1 A2 n2 c2 hT1 hb1); clear HST hT1 hb1; generalize (lineR b).1 = t0 at *; generalize (lineR b).2.2 = k0 at *)
  go_loopw [4, 5, 6, 7] (fun line rest ok out wr => LoopRel w wr B b line rest ok out) (fun line _ ok out _ => loopMeas line ok out)
  case atStart => exact hst.out
  case round =>
    obtain ⟨hb, ⟨t, A2, n2, c2, A1, m, c1, rfl, rfl, rfl, rfl, hno⟩ | ⟨t, r, es, A1, m, c1, A2, n2, c2, rfl, rfl, rfl, rfl, hL⟩⟩ := hrel
    · have HNO := Lib.hid hno
      have HB1 := Lib.hid hb
      clear hno hb
      go_wp2_with (fail)
      go_ret2
      exact ⟨HB1.out, .inr ⟨rfl, HNO.out⟩⟩
    · have tt : (ByteArray.mk t.toArray).toList = t := Go.ByteArray.toList_eq _
      by_cases hend : t = [101, 110, 100]
      case pos =>
        have HX := Lib.hid (loop_exit hL (.inl hend))
        have HT2 := Lib.hid hL.text
        have hown := hL.own
        have hpth := hL.paths
        have hrt := right_any hown.ents (Nat.le_refl _) (fun e he => by have := hpth e he; omega)
        have HB1 := Lib.hid hb
        have HP := Lib.hid hpth
        have HO := Lib.hid hown
        cases hr : rightB (es.map EV.ent) with
        | false =>
          rw [hr] at hrt
          have HRT := Lib.hid hrt
          have HR := Lib.hid hr
          clear hL hb hown hpth hrt hr 
          go_wp2_with (go_at_call 20; refine HRT.out.mono ?_; clear HRT; rintro e w2 ⟨rfl, hb2⟩; have HB2 := Lib.hid hb2; clear hb2)
          go_ret2
          exact ⟨HB1.out.trans (HB2.out.mono HB1.out.size), .inr ⟨rfl, fun l hl e => by have := HR.out; rw [HX.out l hl e, hl] at this; cases this⟩⟩
        | true =>
          rw [hr] at hrt
          have HRT := Lib.hid hrt
          have HR := Lib.hid hr
          have HBY := Lib.hid (fun (w2 : World) (hb2 : Below wr.heap.size wr w2) => bytes_any (w := w2) ((hown.below hb2).ents) (Nat.le_refl _) (fun e he => by have := hpth e he; omega) (fun e he => by
            obtain ⟨g, g1, _, g3, _⟩ := (hown.below hb2).data e he
            exact ⟨_, g1, g3⟩) (fun hr' e he => (HTAB.out.below (hb.trans (hb2.mono hb.size))).itoa _ (by
              have h1 := (rightB_len hr').2 e.ent (List.mem_map.2 ⟨e, he, rfl⟩)
              have : e.ent.data.length = e.data.length := rfl
              omega)))
          cases heq : (bytesB (es.map EV.ent) == b) with
          | false =>
            have HNE := Lib.hid heq
            clear hL hb hown hpth hrt hr heq 
            go_wp2_with (first
              | (go_at_call 20; refine HRT.out.mono ?_; clear HRT; rintro e w2 ⟨rfl, hb2⟩; have HB2 := Lib.hid hb2; clear hb2)
              | (go_at_call 19; refine (HBY.out _ HB2.out).mono ?_; clear HBY; rintro e w3 ⟨A3, n3, c3, rfl, hO3, hb3⟩; have HO3 := Lib.hid hO3; have HB3 := Lib.hid hb3; clear hO3 hb3)
              | (go_at_call 42; refine (equal_any (own_slc_of HO3.out) ((H.out.below (((HB1.out.trans (HB2.out.mono HB1.out.size)).trans (HB3.out.mono (Nat.le_trans HB1.out.size HB2.out.size))).mono HB.out)).slc) HNE.out).mono ?_; rintro e w4 ⟨rfl, rfl⟩))
            go_ret2
            exact ⟨(HB1.out.trans (HB2.out.mono HB1.out.size)).trans (HB3.out.mono (Nat.le_trans HB1.out.size HB2.out.size)), .inr ⟨rfl, fun l hl e => by have := HNE.out; rw [HX.out l hl e, e] at this; simp at this⟩⟩
          | true =>
            have HNE := Lib.hid heq
            clear hL hb hown hpth hrt hr heq 
            go_wp2_with (first
              | (go_at_call 20; refine HRT.out.mono ?_; clear HRT; rintro e w2 ⟨rfl, hb2⟩; have HB2 := Lib.hid hb2; clear hb2)
              | (go_at_call 19; refine (HBY.out _ HB2.out).mono ?_; clear HBY; rintro e w3 ⟨A3, n3, c3, rfl, hO3, hb3⟩; have HO3 := Lib.hid hO3; have HB3 := Lib.hid hb3; clear hO3 hb3)
              | (go_at_call 42; refine (equal_any (own_slc_of HO3.out) ((H.out.below (((HB1.out.trans (HB2.out.mono HB1.out.size)).trans (HB3.out.mono (Nat.le_trans HB1.out.size HB2.out.size))).mono HB.out)).slc) HNE.out).mono ?_; rintro e w4 ⟨rfl, rfl⟩))
            go_ret2
            have HB23 := HB2.out.trans (HB3.out.mono HB2.out.size)
            exact ⟨HB1.out.trans (HB23.mono HB1.out.size), .inl ⟨es, A1, m, c1, rfl, HO.out.below HB23, HR.out, by have := HNE.out; simpa using this⟩⟩
      case neg =>
      have k1 : (t == [101, 110, 100]) = false := by simpa using hend
      by_cases hm24 : m ≤ 24
      case neg =>
        have k2 : ¬ (m : Int) ≤ 24 := by omega
        have HX := Lib.hid (loop_exit hL (.inr (by omega)))
        have HT2 := Lib.hid hL.text
        have hown := hL.own
        have hpth := hL.paths
        have hrt := right_any hown.ents (Nat.le_refl _) (fun e he => by have := hpth e he; omega)
        have HB1 := Lib.hid hb
        have HP := Lib.hid hpth
        have HO := Lib.hid hown
        cases hr : rightB (es.map EV.ent) with
        | false =>
          rw [hr] at hrt
          have HRT := Lib.hid hrt
          have HR := Lib.hid hr
          clear hL hb hown hpth hrt hr hend
          go_wp2_with (go_at_call 20; refine HRT.out.mono ?_; clear HRT; rintro e w2 ⟨rfl, hb2⟩; have HB2 := Lib.hid hb2; clear hb2)
          go_ret2
          exact ⟨HB1.out.trans (HB2.out.mono HB1.out.size), .inr ⟨rfl, fun l hl e => by have := HR.out; rw [HX.out l hl e, hl] at this; cases this⟩⟩
        | true =>
          rw [hr] at hrt
          have HRT := Lib.hid hrt
          have HR := Lib.hid hr
          have HBY := Lib.hid (fun (w2 : World) (hb2 : Below wr.heap.size wr w2) => bytes_any (w := w2) ((hown.below hb2).ents) (Nat.le_refl _) (fun e he => by have := hpth e he; omega) (fun e he => by
            obtain ⟨g, g1, _, g3, _⟩ := (hown.below hb2).data e he
            exact ⟨_, g1, g3⟩) (fun hr' e he => (HTAB.out.below (hb.trans (hb2.mono hb.size))).itoa _ (by
              have h1 := (rightB_len hr').2 e.ent (List.mem_map.2 ⟨e, he, rfl⟩)
              have : e.ent.data.length = e.data.length := rfl
              omega)))
          cases heq : (bytesB (es.map EV.ent) == b) with
          | false =>
            have HNE := Lib.hid heq
            clear hL hb hown hpth hrt hr heq hend
            go_wp2_with (first
              | (go_at_call 20; refine HRT.out.mono ?_; clear HRT; rintro e w2 ⟨rfl, hb2⟩; have HB2 := Lib.hid hb2; clear hb2)
              | (go_at_call 19; refine (HBY.out _ HB2.out).mono ?_; clear HBY; rintro e w3 ⟨A3, n3, c3, rfl, hO3, hb3⟩; have HO3 := Lib.hid hO3; have HB3 := Lib.hid hb3; clear hO3 hb3)
              | (go_at_call 42; refine (equal_any (own_slc_of HO3.out) ((H.out.below (((HB1.out.trans (HB2.out.mono HB1.out.size)).trans (HB3.out.mono (Nat.le_trans HB1.out.size HB2.out.size))).mono HB.out)).slc) HNE.out).mono ?_; rintro e w4 ⟨rfl, rfl⟩))
            go_ret2
            exact ⟨(HB1.out.trans (HB2.out.mono HB1.out.size)).trans (HB3.out.mono (Nat.le_trans HB1.out.size HB2.out.size)), .inr ⟨rfl, fun l hl e => by have := HNE.out; rw [HX.out l hl e, e] at this; simp at this⟩⟩
          | true =>
            have HNE := Lib.hid heq
            clear hL hb hown hpth hrt hr heq hend
            go_wp2_with (first
              | (go_at_call 20; refine HRT.out.mono ?_; clear HRT; rintro e w2 ⟨rfl, hb2⟩; have HB2 := Lib.hid hb2; clear hb2)
              | (go_at_call 19; refine (HBY.out _ HB2.out).mono ?_; clear HBY; rintro e w3 ⟨A3, n3, c3, rfl, hO3, hb3⟩; have HO3 := Lib.hid hO3; have HB3 := Lib.hid hb3; clear hO3 hb3)
              | (go_at_call 42; refine (equal_any (own_slc_of HO3.out) ((H.out.below (((HB1.out.trans (HB2.out.mono HB1.out.size)).trans (HB3.out.mono (Nat.le_trans HB1.out.size HB2.out.size))).mono HB.out)).slc) HNE.out).mono ?_; rintro e w4 ⟨rfl, rfl⟩))
            go_ret2
            have HB23 := HB2.out.trans (HB3.out.mono HB2.out.size)
            exact ⟨HB1.out.trans (HB23.mono HB1.out.size), .inl ⟨es, A1, m, c1, rfl, HO.out.below HB23, HR.out, by have := HNE.out; simpa using this⟩⟩
      case pos =>
      have k2 : (m : Int) ≤ 24 := by omega
      have hb := hb
      have hMX := HMAX.out.below (hb.mono (Nat.le_refl _))
      have hl2 := line_any hL.text (Nat.le_trans HB.out hb.size) (by have := hL.shortr; omega) hMX
      unfold LinePost at hl2
      have HLK := Lib.hid hL
      have HNE := Lib.hid hend
      have HB1 := Lib.hid hb
      cases hk3 : (lineR r).2.2 with
      | false =>
        have HBAD := Lib.hid (loop_bad hL hend hk3)
        rw [hk3] at hl2
        have HL2 := Lib.hid hl2
        clear hL hb hMX hl2 hk3 hend
        go_wp2_with (go_at_call 40; refine HL2.out.mono ?_; clear HL2; rintro e w2 ⟨A3, n3, c3, rfl, hT3, hb3⟩; have HT3 := Lib.hid hT3; have HB3 := Lib.hid hb3; clear hT3 hb3)
        refine ⟨⟨HB1.out.trans (HB3.out.mono HB1.out.size), .inl ⟨_, A3, n3, c3, A1, m, c1, rfl, rfl, rfl, rfl, HBAD.out⟩⟩, ?_⟩
        unfold loopMeas
        simp
        omega
      | true =>
        rw [hk3] at hl2
        by_cases he : (lineR r).1 = [101, 110, 100]
        case pos =>
          have HE := Lib.hid he
          rw [he] at hl2
          have HL2 := Lib.hid hl2
          clear hL hb hMX hl2 hk3 hend he
          go_wp2_with (go_at_call 40; refine HL2.out.mono ?_; clear HL2; rintro e w2 ⟨A3, n3, c3, rfl, hT3, hb3⟩; have HT3 := Lib.hid hT3; have HB3 := Lib.hid hb3; clear hT3 hb3)
          have hQ := loop_ended HLK.out HNE.out HT3.out HB3.out HE.out
          refine ⟨⟨HB1.out.trans (HB3.out.mono HB1.out.size), .inr ⟨_, _, es, A1, m, c1, A3, n3, c3, by rw [HE.out], rfl, rfl, rfl, hQ⟩⟩, ?_⟩
          have := HNE.out
          simp [loopMeas, this]
        case neg =>
          have HE := Lib.hid he
          have HL2 := Lib.hid hl2
          have kne : ((lineR r).1 == [101, 110, 100]) = false := by simpa using he
          have tl : (ByteArray.mk (lineR r).1.toArray).toList = (lineR r).1 := Go.ByteArray.toList_eq _
          have HENT := Lib.hid (fun (w2 : World) A3 n3 c3 (hT3 : TextIn w2 B A3 n3 c3 (lineR r).2.1) (hb3 : Below wr.heap.size wr w2) =>
            tentry_any (w := w2.alloc (.cells #[.string ⟨#[]⟩, .int .i64 0, .slice none 0 0] 73)) (head := (lineR r).1)
              (hT3.below ((Below.refl B w2).alloc (by have := HB.out; have := hb.size; have := hb3.size; omega) _)) (by have := HB.out; have := hb.size; have := hb3.size; simp; omega)
              (by have := hT3.len; have := lineR_len r; have := hL.text.len; have := hL.shortr; omega) (by have := lineR_len r; have := hL.text.len; have := hL.shortr; omega)
              (HMAX.out.below ((hb.trans (hb3.mono hb.size)).alloc (Nat.le_trans hb.size hb3.size) _)) (HAT.out.below ((hb.trans (hb3.mono hb.size)).alloc (Nat.le_trans hb.size hb3.size) _)))
          clear hL hb hMX hl2 hk3 hend he
          generalize ht1 : (lineR r).1 = t1 at *
          generalize hr1 : (lineR r).2.1 = r1 at *
          have HT1 := Lib.hid ht1
          have HR1 := Lib.hid hr1
          clear ht1 hr1
          go_wp2_with (first
            | (go_at_call 40; refine HL2.out.mono ?_; clear HL2; rintro e w2 ⟨A3, n3, c3, rfl, hT3, hb3⟩; have HT3 := Lib.hid hT3; have HB3 := Lib.hid hb3; clear hT3 hb3)
            | (go_at_call 41; refine (HENT.out _ _ _ _ HT3.out HB3.out).mono ?_; clear HENT; rintro e w5 ⟨hb5, p, k, d, Ae, ne, ce, A4, n4, c4, r4, ok4, rfl, hT5, hcase⟩; rw [World.size_alloc] at hb5 hcase; obtain ⟨A', c', w6, hrun, hb6, hk6, ho6⟩ := parse_append HLK.out.own HB1.out HB3.out hb5 (by omega) p k d Ae ne ce ok4 (fun e => by rcases hcase with ⟨_, _, h1, h2⟩ | ⟨h1, _⟩; exact ⟨h1, h2⟩; rw [e] at h1; cases h1);  have HRUN := Lib.hid hrun; have HB6 := Lib.hid hb6; have HK6 := Lib.hid hk6; have HO6 := Lib.hid ho6; clear hrun hb6 hk6 ho6; have hV := (Blk.new w2 73 #[.string ⟨#[]⟩, .int .i64 0, .slice none 0 0]).below hb5 (by omega); have v0 := hV.cell 0; have v1 := hV.cell 1; have v2 := hV.cell 2; have vf0 := hV.frozen 0; have vf1 := hV.frozen 1; have vf2 := hV.frozen 2; simp only [List.getElem?_toArray, List.getElem?_cons_zero, List.getElem?_cons_succ] at v0 v1 v2; have HV := Lib.hid hV; have HB5 := Lib.hid hb5; have HT5 := Lib.hid hT5; have HCASE := Lib.hid hcase; clear hV hb5 hT5 hcase)
            | (at_builtin; refine wpList_append_run rfl _ _ _ rfl rfl rfl HRUN.out ?_; clear HRUN))
          have hne1 : (lineR r).1 ≠ [101, 110, 100] := by rw [HT1.out]; exact HE.out
          refine ⟨⟨HB6.out, ?_⟩, ?_⟩
          · rcases HCASE.out with ⟨rfl, hx, _, _⟩ | ⟨rfl, hx⟩
            · have hQ := loop_next HLK.out HNE.out hne1 (ev := ⟨p, k, d, Ae, ne, ce⟩) (r4 := r4) (by rw [HT1.out, HR1.out]; exact hx) (HO6.out rfl) (HT5.out.below (HK6.out B HB.out)) hm24
              rw [HT1.out] at hQ
              exact .inr ⟨_, _, _, A', m + 1, c', A4, n4, c4, rfl, rfl, rfl, rfl, hQ⟩
            · exact .inl ⟨_, A4, n4, c4, A', m + 1, c', rfl, rfl, rfl, rfl, loop_fail HLK.out HNE.out hne1 (by rw [HT1.out, HR1.out]; exact hx)⟩
          · have hne2 := HNE.out
            cases ok4 <;> simp only [loopMeas] <;> simp [hne2] <;> (try split) <;> omega
end Go.Proofs.YtdhlklidenfbeaaGreatDoor
