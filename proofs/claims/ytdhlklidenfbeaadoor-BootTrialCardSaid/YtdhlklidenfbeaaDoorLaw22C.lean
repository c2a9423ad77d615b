/- The walk of the laws' 'change' (layer 22). -/
import Derived.Test.YtdhlklidenfbeaaDoorLaw22S
import Derived.Laws.BitsLemmas
namespace Go.Proofs.YtdhlklidenfbeaaDoor
open Go.RowKit Go.Sort
set_option linter.unusedVariables false
set_option linter.unusedSimpArgs false

theorem and15 (n : Int) : bits .and .i64 n 15 = n % 16 := by
  have h15 : (BitVec.ofInt 64 15).toNat = 2 ^ 4 - 1 := by decide
  have key : (BitVec.ofInt 64 n &&& BitVec.ofInt 64 15).toNat = (n % ((2 ^ 64 : Nat) : Int)).toNat % 2 ^ 4 := by
    rw [BitVec.toNat_and, BitVec.toNat_ofInt, h15, Nat.and_two_pow_sub_one_eq_mod]
  show IntKind.i64.wrap ((BitVec.ofInt 64 n &&& BitVec.ofInt 64 15).toNat : Nat) = n % 16
  rw [key, IntKind.wrap_i64]
  omega
theorem letter_eq (n : Int) : Value.int .u8 (wrap64 (97 + bits BinOp.and IntKind.i64 n 15) % 256) = bv (letterOf n) := by
  rw [and15]
  have h0 : 0 ≤ n % 16 := by omega
  have h1 : n % 16 < 16 := by omega
  have h2 : wrap64 (97 + n % 16) = 97 + n % 16 := by unfold wrap64; omega
  rw [h2]
  unfold bv letterOf
  congr 1
  rw [UInt8.toNat_ofNat']
  omega
theorem place_eq (c : UInt8) : (⟨#[47, 115, 116, 111, 114, 101, 47, 48, 49, 50, 51, 52, 53, 54, 55, 56, 57, 97, 98, 99, 100, 101, 102, 45, 120]⟩ ++ ⟨[c].toArray⟩ : ByteArray) = ⟨(place ++ [c]).toArray⟩ := by
  rw [ByteArray.mk_append_mk]
  rfl
theorem pre3 (m : Menu) (A : Option Addr) (n c : Nat) (o : MOp) (w W3 : World) (hW : W3 = ((w.alloc (.cells #[.int .i64 m.last, .int .i64 m.def_, .int .i64 m.next, .int .i64 m.trial, .slice A n c] 63)).alloc (.cells #[.int .i64 o.kind, .int .i64 o.n] 67)).alloc (.cells #[.int .i64 0, .int .i64 0, .int .i64 0, .int .i64 0, .slice none 0 0] 63)) :
    Below w.heap.size w W3 ∧ W3.heap.size = w.heap.size + 1 + 1 + 1 ∧ MenuBlk W3 w.heap.size m A n c ∧ Blk W3 (w.heap.size + 1) 67 #[.int .i64 o.kind, .int .i64 o.n] ∧ Blk W3 (w.heap.size + 1 + 1) 63 #[.int .i64 0, .int .i64 0, .int .i64 0, .int .i64 0, .slice none 0 0] := by
  subst hW
  refine ⟨(((Below.refl _ w).alloc (Nat.le_refl _) _).alloc (by simp) _).alloc (by simp; omega) _, by simp, ((Blk.new _ _ _).alloc _).alloc _, ?_, ?_⟩
  · have := Blk.new (w.alloc (.cells #[.int .i64 m.last, .int .i64 m.def_, .int .i64 m.next, .int .i64 m.trial, .slice A n c] 63)) 67 #[.int .i64 o.kind, .int .i64 o.n]
    rw [World.size_alloc] at this
    exact this.alloc _
  · have := Blk.new ((w.alloc (.cells #[.int .i64 m.last, .int .i64 m.def_, .int .i64 m.next, .int .i64 m.trial, .slice A n c] 63)).alloc (.cells #[.int .i64 o.kind, .int .i64 o.n] 67)) 63 #[.int .i64 0, .int .i64 0, .int .i64 0, .int .i64 0, .slice none 0 0]
    rwa [World.size_alloc, World.size_alloc] at this

section
attribute [local go_sem ↓] load_menu_mark store_menu_mark
set_option maxRecDepth 100000 in
set_option maxHeartbeats 4000000 in
theorem change_any {w : World} {B : Nat} {A : Option Addr} {n c : Nat} {m : Menu} (h : GensAt w B A n c m.gens) (hB : B ≤ w.heap.size) (hpl : ∀ g ∈ m.gens, g.path.length ≤ 1000000000) (hn : n ≤ 1000000000) (o : MOp) (ho : -9223372036854775808 ≤ o.n ∧ o.n ≤ 9223372036854775807) :
    Calls Tryd.prog 25 #[menuV m A n c, .agg #[.int .i64 o.kind, .int .i64 o.n]] w fun e w' => ∃ v, e = .returned (.tuple #[v, .int .i64 (opM m o).err]) ∧ MenuGot w w' (opM m o).menu v := by
  obtain ⟨W3, hW3⟩ : ∃ W3, W3 = ((w.alloc (.cells #[.int .i64 m.last, .int .i64 m.def_, .int .i64 m.next, .int .i64 m.trial, .slice A n c] 63)).alloc (.cells #[.int .i64 o.kind, .int .i64 o.n] 67)).alloc (.cells #[.int .i64 0, .int .i64 0, .int .i64 0, .int .i64 0, .slice none 0 0] 63) := ⟨_, rfl⟩
  obtain ⟨hb3, hz3, hM3, hO3, hR3⟩ := pre3 m A n c o w W3 hW3
  have hG3 := h.below (hb3.mono hB)
  have hB3 := Nat.le_trans hB hb3.size
  have hl3 := hM3.load
  have H := Lib.hid (And.intro hb3 (And.intro hz3 (And.intro hO3 hR3)))
  rw [hW3] at hl3
  by_cases h0 : o.kind = 0
  · have HO := Lib.hid (show opM m o = addM m (place ++ [letterOf o.n]) by unfold opM; rw [if_pos h0])
    have k0 : (o.kind == 0) = true := by simpa using h0
    have hL4 := slc_new W3 5 (0, 0) #[bv (letterOf o.n)] (sz := 1) (n := 1) (c := 1) rfl (Nat.le_refl _) (by decide)
    have hcv := convert_bytes (P := Tryd.prog) Tryd.underlying42 Tryd.underlying5 (l := [letterOf o.n]) hL4
    have hb4 : Below w.heap.size w (W3.alloc (.cells #[bv (letterOf o.n)] 5)) := hb3.alloc hb3.size _
    have hc := add_any (h.below (hb4.mono hB)) (Nat.le_trans hB hb4.size) hpl hn (place ++ [letterOf o.n]) (by simp [place])
    rw [← place_eq] at hc
    have HB4 := Lib.hid hb4
    have hR4 := hR3.alloc (.cells #[bv (letterOf o.n)] 5)
    have HR4 := Lib.hid hR4
    rw [← letter_eq, hW3] at hcv hc
    rw [World.size_alloc, World.size_alloc, World.size_alloc] at hcv
    clear hb3 hz3 hO3 hR3 hG3 h h0 hM3 hL4 hb4 hR4
    unfold menuV
    go_enter Tryd.func25, Tryd.ntmps25
    go_wp2_with (go_at_call 31; refine hc.mono ?_; clear hc; rintro e4 w4 ⟨v4, rfl, hg4⟩; rw [letter_eq, ← hW3] at hg4; have hR5 := HR4.out.below hg4.choose_spec.choose_spec.choose_spec.2.2 HR4.out.lt; obtain ⟨A4, n4, c4, rfl, hs4, hl4, ho4, hb4, hR6⟩ := got_new3 hg4 hR5; obtain ⟨hs5, hB5⟩ := MenuBlk.store hR6 rfl (addM m (place ++ [letterOf o.n])).menu A4 n4 c4)
    refine bodyPost_ret (res_menu2 (t := 4) (u := 5) (g := w.heap.size + 1 + 1) rfl rfl hB5 rfl) rfl ⟨_, by rw [HO.out]; rfl, ?_⟩
    rw [HO.out]
    exact ⟨A4, n4, c4, rfl, own_row (own_mono ho4 HB4.out.size) (own_ne ho4 HR4.out.lt) _, below_row (HB4.out.trans (hb4.mono HB4.out.size)) (by omega) _⟩
  by_cases h1 : o.kind = 1
  · have HO := Lib.hid (show opM m o = removeM m o.n by unfold opM; rw [if_neg h0, if_pos h1])
    have hc := remove_any hG3 hB3 hpl hn o.n
    have k0 : (o.kind == 0) = false := by simpa using h0
    have k1 : (o.kind == 1) = true := by simpa using h1
    rw [hW3] at hc
    clear hb3 hz3 hO3 hR3 hG3 h h0 h1 hM3
    unfold menuV
    go_enter Tryd.func25, Tryd.ntmps25
    go_wp2_with (go_at_call 35; refine hc.mono ?_; clear hc; rintro e4 w4 ⟨v4, rfl, hg4⟩; rw [← hW3] at hg4; obtain ⟨A4, n4, c4, rfl, hs4, hB4, ho4, hb4⟩ := got_set2 hg4 H.out.2.2.2 rfl)
    refine bodyPost_ret (res_menu2 (t := 4) (u := 5) (g := w.heap.size + 1 + 1) rfl rfl hB4 rfl) rfl ⟨_, by rw [HO.out]; rfl, ?_⟩
    rw [HO.out]
    exact ⟨A4, n4, c4, rfl, own_mono ho4 H.out.1.size, H.out.1.trans (hb4.mono (by omega))⟩
  by_cases h2 : o.kind = 2
  · have HO := Lib.hid (show opM m o = defaultM m o.n by unfold opM; rw [if_neg h0, if_neg h1, if_pos h2])
    have hc := default_any hG3 hB3 hpl hn o.n
    have k0 : (o.kind == 0) = false := by simpa using h0
    have k1 : (o.kind == 1) = false := by simpa using h1
    have k2 : (o.kind == 2) = true := by simpa using h2
    rw [hW3] at hc
    clear hb3 hz3 hO3 hR3 hG3 h h0 h1 h2 hM3
    unfold menuV
    go_enter Tryd.func25, Tryd.ntmps25
    go_wp2_with (go_at_call 29; refine hc.mono ?_; clear hc; rintro e4 w4 ⟨v4, rfl, hg4⟩; rw [← hW3] at hg4; obtain ⟨A4, n4, c4, rfl, hs4, hB4, ho4, hb4⟩ := got_set2 hg4 H.out.2.2.2 rfl)
    refine bodyPost_ret (res_menu2 (t := 4) (u := 5) (g := w.heap.size + 1 + 1) rfl rfl hB4 rfl) rfl ⟨_, by rw [HO.out]; rfl, ?_⟩
    rw [HO.out]
    exact ⟨A4, n4, c4, rfl, own_mono ho4 H.out.1.size, H.out.1.trans (hb4.mono (by omega))⟩
  by_cases h3 : o.kind = 3
  · have HO := Lib.hid (show opM m o = nextM m o.n by unfold opM; rw [if_neg h0, if_neg h1, if_neg h2, if_pos h3])
    have hc := next_any hG3 hB3 hpl hn o.n
    have k0 : (o.kind == 0) = false := by simpa using h0
    have k1 : (o.kind == 1) = false := by simpa using h1
    have k2 : (o.kind == 2) = false := by simpa using h2
    have k3 : (o.kind == 3) = true := by simpa using h3
    rw [hW3] at hc
    clear hb3 hz3 hO3 hR3 hG3 h h0 h1 h2 h3 hM3
    unfold menuV
    go_enter Tryd.func25, Tryd.ntmps25
    go_wp2_with (go_at_call 27; refine hc.mono ?_; clear hc; rintro e4 w4 ⟨v4, rfl, hg4⟩; rw [← hW3] at hg4; obtain ⟨A4, n4, c4, rfl, hs4, hB4, ho4, hb4⟩ := got_set2 hg4 H.out.2.2.2 rfl)
    refine bodyPost_ret (res_menu2 (t := 4) (u := 5) (g := w.heap.size + 1 + 1) rfl rfl hB4 rfl) rfl ⟨_, by rw [HO.out]; rfl, ?_⟩
    rw [HO.out]
    exact ⟨A4, n4, c4, rfl, own_mono ho4 H.out.1.size, H.out.1.trans (hb4.mono (by omega))⟩
  · have HO := Lib.hid (show opM m o = ⟨0, loadM m⟩ by unfold opM; rw [if_neg h0, if_neg h1, if_neg h2, if_neg h3])
    have hc := load_any hG3 hB3 hn
    have k0 : (o.kind == 0) = false := by simpa using h0
    have k1 : (o.kind == 1) = false := by simpa using h1
    have k2 : (o.kind == 2) = false := by simpa using h2
    have k3 : (o.kind == 3) = false := by simpa using h3
    rw [hW3] at hc
    clear hb3 hz3 hO3 hR3 hG3 h h0 h1 h2 h3 hM3
    unfold menuV
    go_enter Tryd.func25, Tryd.ntmps25
    go_wp2_with (go_at_call 28; refine hc.mono ?_; clear hc; rintro e4 w4 ⟨v4, rfl, hg4⟩; rw [← hW3] at hg4; have hR4 := H.out.2.2.2.below hg4.choose_spec.choose_spec.choose_spec.2.2 H.out.2.2.2.lt; obtain ⟨A4, n4, c4, rfl, hs4, hl4, ho4, hb4, hR5⟩ := got_new3 hg4 hR4; obtain ⟨hs5, hB5⟩ := MenuBlk.store hR5 rfl (loadM m) A4 n4 c4)
    refine bodyPost_ret (res_menu2 (t := 4) (u := 5) (g := w.heap.size + 1 + 1) rfl rfl hB5 rfl) rfl ⟨_, by rw [HO.out]; rfl, ?_⟩
    rw [HO.out]
    exact ⟨A4, n4, c4, rfl, own_row (own_mono ho4 H.out.1.size) (own_ne ho4 H.out.2.2.2.lt) _, below_row (H.out.1.trans (hb4.mono H.out.1.size)) (by omega) _⟩
end
end Go.Proofs.YtdhlklidenfbeaaDoor
