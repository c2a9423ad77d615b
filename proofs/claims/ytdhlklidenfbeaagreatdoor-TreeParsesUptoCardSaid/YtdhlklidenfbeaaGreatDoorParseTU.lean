/- The reference's word (bootjackref08), and its Parse: plain steps. The reference's Parse (bootjackref08). -/
import Derived.Test.YtdhlklidenfbeaaGreatDoorParseQ
import Derived.Test.YtdhlklidenfbeaaGreatDoorRef08D
import Derived.Deep.RegionHeld3
namespace Go.Proofs.YtdhlklidenfbeaaGreatDoor
open Go.RowKit Go.Shelf
set_option linter.unusedVariables false
set_option linter.unusedSimpArgs false

theorem TextIn.cut {w : World} {B : Nat} {A : Option Addr} {n c : Nat} {s : Txt} (h : TextIn w B A n c s) {j k : Nat} (hj : j ≤ k) (hk : k ≤ n) :
    ∃ A2, Lib.fromV A k c j = .slice A2 (k - j) (c - j) ∧ TextIn w B A2 (k - j) (c - j) ((s.drop j).take (k - j)) := by
  obtain ⟨A2, h1, h2⟩ := (h.take hk).from_ hj
  refine ⟨A2, h1, ?_⟩
  rwa [List.drop_take] at h2
theorem text_byte {w : World} {B : Nat} {A : Option Addr} {n c : Nat} {s : Txt} (h : TextIn w B A n c s) {k : Nat} (hk : k < n) :
    ∃ b off, A = some ⟨b, off, none⟩ ∧ b < B ∧ ∃ hl : k < s.length, w.cell? ⟨b, off + k, none⟩ = some (.int .u8 (s[k].toNat : Int)) := h.slc.byte hk
theorem zero_slc (w : World) (B : Nat) (A : Option Addr) : Slc w B 1 A 0 0 (([] : Txt).map bv) := ⟨rfl, Nat.le_refl _, Nat.zero_le _, fun h => absurd h (by decide)⟩
theorem zero_slc2 (w : World) (B : Nat) (A : Option Addr) (c : Nat) (hc : c ≤ maxLen) : Slc w B 1 A 0 c (([] : Txt).map bv) := ⟨rfl, Nat.zero_le _, hc, fun h => absurd h (by decide)⟩
theorem conv_cut {w : World} {B b off n c : Nat} {s : Txt} (h : TextIn w B (some ⟨b, off, none⟩) n c s) {p k : Nat} (hp : p ≤ k) (hk : k ≤ n) (hc : ¬ c = p) :
    (convert 32 9 (.slice (some ⟨b, off + p, none⟩) (k - p) (c - p))).run Tryz.prog w = .ok (.string ⟨((s.drop p).take (k - p)).toArray⟩) w := by
  obtain ⟨A2, e2, h2⟩ := h.cut hp hk
  have e3 : A2 = some ⟨b, off + p, none⟩ := by
    unfold Lib.fromV at e2
    rw [if_neg hc, Option.map_some, addr_of_add] at e2
    injection e2 with e2
    exact e2.symm
  rw [e3] at h2
  exact convert_bytes (P := Tryz.prog) (src := 32) Tryz.underlying32 Tryz.underlying5 h2.slc 9 Tryz.underlying9
def WordPost (w : World) (s : Txt) (p : Nat) (ch : UInt8) : Ending → World → Prop := fun e w' => e = .returned (.tuple #[.string ⟨(upto ch (s.drop p)).toArray⟩, .int .i64 ((p + (upto ch (s.drop p)).length + 1 : Nat) : Int)]) ∧ w' = w
set_option maxRecDepth 100000 in
set_option maxHeartbeats 2000000 in
theorem word_any {w : World} {B : Nat} {A : Option Addr} {n c : Nat} {s : Txt} (h : TextIn w B A n c s) (hn : n ≤ 1000000000) {p : Nat} (hp : p ≤ n) (ch : UInt8) :
    Calls Tryz.prog 38 #[.slice A n c, .int .i64 (p : Int), .int .u8 (ch.toNat : Int)] w (WordPost w s p ch) := by
  have hlen := h.len
  have hcap : n ≤ c := h.slc.le
  have hc62 : c ≤ 9223372036854775807 := by have := h.slc.cmax; unfold maxLen at this; omega
  have hn62 : n ≤ 9223372036854775807 := by omega
  have H := Lib.hid h
  have HL := Lib.hid hlen
  clear h hlen
  go_enter Tryz.func38, Tryz.ntmps38
  go_wp2_with (fail)
  go_loop [8] (fun i => ∃ k : Nat, p ≤ k ∧ k ≤ n ∧ i = .int .i64 (k : Int) ∧ Aside (∀ j (hj : j < s.length), p ≤ j → j < k → s[j] ≠ ch)) (fun i => n - (intOf i).toNat)
  case atStart => exact ⟨p, Nat.le_refl _, hp, rfl, fun j _ h1 h2 => by omega⟩
  case round =>
    obtain ⟨k, hpk, hk, rfl, hno⟩ := hrel
    have key : ∀ (hx : ∀ hi : k < s.length, s[k] = ch), upto ch (s.drop p) = (s.drop p).take (k - p) := fun hx =>
      upto_at ch (s.drop p) (k - p) (by have := HL.out; simp; omega) (fun j hj hjk => by
        rw [List.getElem_drop]
        exact hno.out (p + j) (by simp at hj; omega) (by omega) (by omega)) (fun hi => by
        rw [List.getElem_drop]
        have hi' : k < s.length := by simp at hi; omega
        have := hx hi'
        simp only [show p + (k - p) = k by omega]
        exact this)
    by_cases hlt : k < n
    · obtain ⟨b, off, rfl, hbB, hl, c0⟩ := text_byte H.out hlt
      by_cases hc : s[k] = ch
      · have HK := Lib.hid (key (fun _ => hc))
        have HKL := Lib.hid (show ((s.drop p).take (k - p)).length = k - p by have := HL.out; simp; omega)
        rw [hc] at c0
        have hcv := conv_cut H.out hpk (Nat.le_of_lt hlt) (show ¬ c = p by omega)
        have hpc : ¬ p = c := by omega
        clear key hc
        go_wp2_with (fail)
        go_ret2
        refine ⟨?_, rfl⟩
        rw [HK.out, HKL.out, show p + (k - p) + 1 = k + 1 by omega]
        rfl
      · have hne : ¬ (s[k].toNat : Int) = (ch.toNat : Int) := fun e => hc (UInt8.toNat_inj.1 (by omega))
        have HN := Lib.hid (show ∀ j (hj : j < s.length), p ≤ j → j < k + 1 → s[j] ≠ ch from fun j hj h1 h2 => by
          rcases Nat.lt_or_ge j k with h3 | h3
          · exact hno.out j hj h1 h3
          · obtain rfl : j = k := by omega
            exact hc)
        generalize s[k] = x at *
        clear key hc
        go_wp2_with (fail)
        exact ⟨⟨k + 1, by omega, by omega, by go_num, HN.out⟩, by simp [intOf]; omega⟩
    · obtain rfl : k = n := by omega
      have hx : ∀ hi : k < s.length, s[k] = ch := fun hi => by have := HL.out; omega
      have HK := Lib.hid (key hx)
      have HKL := Lib.hid (show ((s.drop p).take (k - p)).length = k - p by have := HL.out; simp; omega)
      clear key hlt hx
      by_cases hpc : p = c
      · obtain rfl : k = p := by omega
        subst hpc
        have hcv := convert_bytes (P := Tryz.prog) (src := 32) Tryz.underlying32 Tryz.underlying5 (zero_slc w B A) 9 Tryz.underlying9
        have hkk : (k : Int) ≤ (k : Int) := by omega
        rw [Nat.sub_self] at HK HKL
        go_wp2_with (fail)
        go_ret2
        refine ⟨?_, rfl⟩
        rw [HK.out, HKL.out]
        rfl
      · have hp2 : ¬ c = p := by omega
        cases A with
        | none => exact absurd (H.out.nil rfl) (by omega)
        | some a =>
          obtain ⟨b, off, sp⟩ := a
          by_cases h0 : k = 0
          · subst h0
            obtain rfl : p = 0 := by omega
            have hcv := convert_bytes (P := Tryz.prog) (src := 32) Tryz.underlying32 Tryz.underlying5 (zero_slc2 w B (some ⟨b, off, sp⟩) c H.out.slc.cmax) 9 Tryz.underlying9
            have HS0 := Lib.hid (show s = [] from List.eq_nil_of_length_eq_zero HL.out)
            have hc0 : ¬ (0 : Nat) = c := fun e => hp2 e.symm
            go_wp2_with (fail)
            go_ret2
            refine ⟨?_, rfl⟩
            rw [HS0.out]
            rfl
          · obtain ⟨b', off', e, _⟩ := H.out.slc.at_ (by omega)
            injection e with e
            injection e with e1 e2 e3
            subst e3
            have hcv := conv_cut H.out hpk (Nat.le_refl _) hp2
            clear e1 e2
            go_wp2_with (fail)
            go_ret2
            refine ⟨?_, rfl⟩
            rw [HK.out, HKL.out, show p + (k - p) + 1 = k + 1 by omega]
            rfl
end Go.Proofs.YtdhlklidenfbeaaGreatDoor
namespace Go.Proofs.YtdhlklidenfbeaaGreatDoor
open Go.RowKit Go.Shelf
set_option linter.unusedVariables false
set_option linter.unusedSimpArgs false

/-- What is known at the reference's test. -/
structure RefOk (wr : World) (base : Nat) (b : Txt) (es : List EV) (A : Option Addr) (m c p : Nat) : Prop where
  own : OwnEnts wr base (.slice A m c) m es
  small : m ≤ 25
  paths : ∀ e ∈ es, e.path.length ≤ 2000000
  some_ : 0 < m → b ≠ []
  says : ∀ l, rightB l = true → bytesB l = b → m ≤ l.length ∧ b.drop p = restT l m ∧ es.map EV.ent = l.take m
theorem RefOk.start {w : World} {base : Nat} {b : Txt} : RefOk w base b [] none 0 0 ((upto 10 b).length + 1) := by
  refine ⟨OwnEnts.nil _ _, by decide, (fun e he => by cases he), fun h => absurd h (by decide), fun l hl e => ?_⟩
  rw [← e, bytesB_rest hl, upto_app 10 _ _ (by decide)]
  exact ⟨Nat.zero_le _, rfl, rfl⟩
theorem RefOk.exit {wr : World} {base : Nat} {b : Txt} {es : List EV} {A : Option Addr} {m c p : Nat} (h : RefOk wr base b es A m c p) (hx : b.length ≤ p ∨ 25 ≤ m ∨ b.drop p = [101, 110, 100, 10]) :
    ∀ l, rightB l = true → bytesB l = b → es.map EV.ent = l := fun l hl e => by
  obtain ⟨h1, h2, h3⟩ := h.says l hl e
  have h24 := (rightB_len hl).1
  rcases hx with hx | hx | hx
  · rw [List.drop_of_length_le hx] at h2
    exact absurd h2.symm (restT_ne l m)
  · omega
  · rcases Nat.lt_or_ge m l.length with hlt | hge
    · rw [hx] at h2
      exact absurd h2.symm (rest_end_ne hl hlt)
    · rw [h3, List.take_of_length_le hge]
theorem RefOk.entry {wr : World} {base : Nat} {b : Txt} {es : List EV} {A : Option Addr} {m c p : Nat} (h : RefOk wr base b es A m c p) (hx : b.drop p ≠ [101, 110, 100, 10]) :
    ∀ l, rightB l = true → bytesB l = b → ∃ hm : m < l.length, entryQ (b.drop p) = some (l[m], (headT l[m]).length + l[m].data.length + 2) ∧ (b.drop p).drop ((headT l[m]).length + l[m].data.length + 2) = restT l (m + 1) := fun l hl e => by
  obtain ⟨h1, h2, h3⟩ := h.says l hl e
  rcases Nat.lt_or_ge m l.length with hlt | hge
  · refine ⟨hlt, ?_, ?_⟩
    · rw [h2, restT_succ l m hlt]
      exact entryQ_back (right_entry hl hlt) _
    · rw [h2]
      exact restT_drop hlt
  · rw [h2, restT_end l m hge] at hx
    exact absurd rfl hx
theorem RefOk.bad {wr : World} {base : Nat} {b : Txt} {es : List EV} {A : Option Addr} {m c p : Nat} (h : RefOk wr base b es A m c p) (hx : b.drop p ≠ [101, 110, 100, 10]) (hq : entryQ (b.drop p) = none) :
    ∀ l, rightB l = true → bytesB l ≠ b := fun l hl e => by
  obtain ⟨_, h1, _⟩ := h.entry hx l hl e
  rw [hq] at h1
  cases h1
theorem RefOk.next {wr w6 : World} {base : Nat} {b : Txt} {es : List EV} {A A' : Option Addr} {m c c' p q : Nat} (h : RefOk wr base b es A m c p) (hx : b.drop p ≠ [101, 110, 100, 10]) (hm : m < 25) (hp : p < b.length) (hb : b.length ≤ 2000000) {ev : EV} (hq : entryQ (b.drop p) = some (ev.ent, q))
    (ho : OwnEnts w6 base (.slice A' (m + 1) c') (m + 1) (es ++ [ev])) (hpl : ev.path.length ≤ 2000000) : RefOk w6 base b (es ++ [ev]) A' (m + 1) c' (p + q) := by
  refine ⟨ho, by omega, fun e he => ?_, fun _ e => by rw [e] at hp; simp at hp, fun l hl e => ?_⟩
  · rcases List.mem_append.1 he with he | he
    · exact h.paths e he
    · rw [List.mem_singleton.1 he]; exact hpl
  · obtain ⟨hlt, h1, h2⟩ := h.entry hx l hl e
    obtain ⟨_, _, h5⟩ := h.says l hl e
    rw [hq] at h1
    injection h1 with h1
    injection h1 with h3 h4
    rw [← h4] at h2
    refine ⟨hlt, by rw [← List.drop_drop]; exact h2, ?_⟩
    rw [List.map_append, h5, List.take_succ_eq_append_getElem hlt]
    simp [h3]
def RefParsePost (w : World) (b : Txt) : Ending → World → Prop := fun e w' => Below w.heap.size w w' ∧
  ((∃ es A m c, e = .returned (.tuple #[.slice A m c, .bool true]) ∧ OwnEnts w' w.heap.size (.slice A m c) m es ∧ rightB (es.map EV.ent) = true ∧ bytesB (es.map EV.ent) = b) ∨
   (e = .returned (.tuple #[.slice none 0 0, .bool false]) ∧ ∀ l, rightB l = true → bytesB l ≠ b))
def numT (Z : Txt) (i : Nat) : Nat := (Z.take i).foldl (fun n c => 10 * n + c.toNat % 16) 0
theorem numT_succ (Z : Txt) (i : Nat) (h : i < Z.length) : numT Z (i + 1) = 10 * numT Z i + Z[i].toNat % 16 := by
  unfold numT
  rw [List.take_succ_eq_append_getElem h, List.foldl_append]
  rfl
theorem numT_le (Z : Txt) : ∀ i, i ≤ Z.length → numT Z i + 2 ≤ 2 * 10 ^ i
  | 0, _ => by simp [numT]
  | i + 1, h => by
    have := numT_le Z i (by omega)
    rw [numT_succ Z i (by omega), Nat.pow_succ]
    omega
theorem numT_small (Z : Txt) (i : Nat) (h : i ≤ Z.length) (h5 : i ≤ 5) : numT Z i ≤ 200000 := by
  have h1 := numT_le Z i h
  have h2 : 10 ^ i ≤ 10 ^ 5 := Nat.pow_le_pow_right (by decide) h5
  omega
theorem numT_all (Z : Txt) (i : Nat) (h : i = min Z.length 5) : numT Z i = numQ Z := by
  unfold numT numQ
  subst h
  rcases Nat.le_total Z.length 5 with h1 | h1
  · rw [Nat.min_eq_left h1, List.take_of_length_le (Nat.le_refl _), List.take_of_length_le h1]
  · rw [Nat.min_eq_right h1]
theorem byte_rem (Z : Txt) (q : Nat) (h : q < Z.length) (h' : q < (ByteArray.mk Z.toArray).size) : (wrap64 ((ByteArray.mk Z.toArray)[q].toNat : Int)).tmod 16 = ((Z[q].toNat % 16 : Nat) : Int) := by
  show (wrap64 (Z[q].toNat : Int)).tmod 16 = _
  have h1 := u8_lt Z[q]
  have h2 : wrap64 (Z[q].toNat : Int) = (Z[q].toNat : Int) := by unfold wrap64; omega
  rw [h2, Int.tmod_eq_emod_of_nonneg (by omega)]
  omega
/-- The three words of an entry's first line, as the reference takes them. -/
theorem ref_words {w : World} {B : Nat} {A : Option Addr} {n c : Nat} {b : Txt} (h : TextIn w B A n c b) (hn : n ≤ 2000000) {p : Nat} (hp : p < n) : ∃ d1 p1 d2 p2 p3 : Nat, p1 ≤ n ∧ p2 ≤ n ∧ d1 ≤ n + 1 ∧ d2 ≤ n + 1 ∧ p < p3 ∧ p3 ≤ n + 1 ∧
    min (d1 : Int) (n : Int) = (p1 : Int) ∧ min (d2 : Int) (n : Int) = (p2 : Int) ∧ p3 = p + n3Q (b.drop p) ∧
    Calls Tryz.prog 38 #[.slice A n c, .int .i64 (p : Int), .int .u8 32] w (fun e w' => e = .returned (.tuple #[.string ⟨(kindQ (b.drop p)).toArray⟩, .int .i64 (d1 : Int)]) ∧ w' = w) ∧
    Calls Tryz.prog 38 #[.slice A n c, .int .i64 (p1 : Int), .int .u8 32] w (fun e w' => e = .returned (.tuple #[.string ⟨(pathQ (b.drop p)).toArray⟩, .int .i64 (d2 : Int)]) ∧ w' = w) ∧
    Calls Tryz.prog 38 #[.slice A n c, .int .i64 (p2 : Int), .int .u8 10] w (fun e w' => e = .returned (.tuple #[.string ⟨(sizeQ (b.drop p)).toArray⟩, .int .i64 (p3 : Int)]) ∧ w' = w) := by
  have hl := h.len
  obtain ⟨s, hs⟩ : ∃ s, s = b.drop p := ⟨_, rfl⟩
  have hsl : s.length = n - p := by rw [hs]; simp; omega
  rw [← hs]
  have e1 : b.drop (p + n1Q s) = s.drop (n1Q s) := by rw [hs, List.drop_drop]
  have e2 : b.drop (p + n2Q s) = s.drop (n2Q s) := by rw [hs, List.drop_drop]
  have l1 : n1Q s ≤ n - p := by unfold n1Q; omega
  have l2 : n2Q s ≤ n - p := by unfold n2Q; omega
  have w1 := word_any h (by omega) (Nat.le_of_lt hp) 32
  have w2 := word_any h (by omega) (show p + n1Q s ≤ n by omega) 32
  have w3 := word_any h (by omega) (show p + n2Q s ≤ n by omega) 10
  unfold WordPost at w1 w2 w3
  rw [← hs] at w1
  rw [e1] at w2
  rw [e2] at w3
  have k1 : (kindQ s).length ≤ s.length := upto_len 32 s
  have k2 : (pathQ s).length ≤ (s.drop (n1Q s)).length := upto_len 32 _
  have k3 : (sizeQ s).length ≤ (s.drop (n2Q s)).length := upto_len 10 _
  rw [List.length_drop, hsl] at k2 k3
  rw [hsl] at k1
  have d1 : n1Q s = min ((kindQ s).length + 1) (n - p) := by unfold n1Q; rw [hsl]
  have d2 : n2Q s = min (n1Q s + (pathQ s).length + 1) (n - p) := by unfold n2Q; rw [hsl]
  have d3 : n3Q s = n2Q s + (sizeQ s).length + 1 := rfl
  refine ⟨p + (kindQ s).length + 1, p + n1Q s, p + n1Q s + (pathQ s).length + 1, p + n2Q s, p + n2Q s + (sizeQ s).length + 1, by omega, by omega, by omega, by omega, by omega, by omega, by omega, by omega, by omega, w1, w2, w3⟩
/-- The entry that was read is put behind the others. -/
theorem ref_put {w wr w3 V : World} {Ac : Option Addr} {cc num g c4 : Nat} {d : Txt} {A1 : Option Addr} {m c1 : Nat} {es : List EV} (hown : OwnEnts wr w.heap.size (.slice A1 m c1) m es) (hb : Below w.heap.size w wr)
    (D : ApData wr (wr.alloc (.cells #[] 5)) Ac cc num wr.heap.size d g c4 w3) (hV : V.heap.size = w3.heap.size + 1) (hbV : Below w3.heap.size w3 V) (hm : m ≤ 2000000) (p : Txt) (k : Int) :
    ∃ A' c' w6, (Builtin.append_ #[35, 35] 35 #[.slice A1 m c1, .slice (some ⟨w3.heap.size + 1, 0, none⟩) 1 1]).run Tryz.prog (V.alloc (.cells #[.string ⟨p.toArray⟩, .int .i64 k, .slice (some ⟨g, 0, none⟩) num c4] 73)) = .ok (.slice A' (m + 1) c') w6 ∧
      OwnEnts w6 w.heap.size (.slice A' (m + 1) c') (m + 1) (es ++ [⟨p, k, d, some ⟨g, 0, none⟩, num, c4⟩]) ∧ Below w.heap.size w w6 := by
  have hbr : Below wr.heap.size wr V := D.bel.trans (hbV.mono D.bel.size)
  have hg1 := D.lo
  have hg2 := D.hi
  have hs := hb.size
  have hOV := hown.below hbr
  have hSV : Slc V V.heap.size 1 (some ⟨g, 0, none⟩) num c4 (d.map bv) := (D.slc.below hbV).more (by omega)
  have hog : (Value.slice A1 m c1).ownBlock ≠ some g := fun e => by have := (hown.own.lt _ e).2; omega
  obtain ⟨A', c', w6, h1, h2, h3, _⟩ := hOV.append ⟨p, k, d, some ⟨g, 0, none⟩, num, c4⟩ hSV ⟨g, rfl, by omega, by omega, hog⟩ (fun g' hg' => by
    injection hg' with hg'
    injection hg' with hg'
    subst hg'
    exact D.free.of (hbV.block g hg2)) (by omega) (by have := hbr.size; omega)
  rw [hV] at h1
  refine ⟨A', c', w6, h1, h2, ?_⟩
  have hbw : Below w.heap.size w V := hb.trans (hbr.mono hs)
  exact (hbw.alloc hbw.size _).grown h3 (by have := hbw.size; simp; omega) (fun q hq => by have := (hown.own.lt _ hq).1; omega)
end Go.Proofs.YtdhlklidenfbeaaGreatDoor
