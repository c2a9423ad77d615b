/- The walk of BootMenus (layer 22). -/
import Derived.Test.YtdhlklidenfbeaaDoorMenuI
namespace Go.Proofs.YtdhlklidenfbeaaDoor
open Go.RowKit
set_option linter.unusedVariables false
set_option linter.unusedSimpArgs false

theorem Stb.swap {w w2 W : World} {a b : Nat × Array Value} {L : List (Nat × Array Value)} (h : Stb w w2 W (a :: b :: L)) : Stb w w2 W (b :: a :: L) := h.sub (fun p hp => by
  simp only [List.mem_cons] at hp ⊢
  rcases hp with h | h | h
  · exact .inr (.inl h)
  · exact .inl h
  · exact .inr (.inr h))
theorem OwnA.swap {w2 W : World} {a b : Nat × Array Value} {L : List (Nat × Array Value)} {X : Menu} {A : Option Addr} {n c : Nat} (h : OwnA w2 W (a :: b :: L) X A n c) : OwnA w2 W (b :: a :: L) X A n c := h.sub (fun p hp => by
  simp only [List.mem_cons] at hp
  rcases hp with h | h | h
  · exact ⟨p, by simp [h], rfl⟩
  · exact ⟨p, by simp [h], rfl⟩
  · exact ⟨p, by simp [h], rfl⟩)
theorem ne3 {a b c t : Nat} {x y z : Array Value} (h1 : a ≠ t) (h2 : b ≠ t) (h3 : c ≠ t) : ∀ p ∈ [(a, x), (b, y), (c, z)], p.1 ≠ t := fun p hp => by
  simp only [List.mem_cons, List.not_mem_nil, or_false] at hp
  rcases hp with rfl | rfl | rfl <;> assumption
theorem OwnA.n9 {w2 W : World} {L : List (Nat × Array Value)} {X : Menu} {A : Option Addr} {n c : Nat} (o : OwnA w2 W L X A n c) (h : X.gens.length ≤ 1000000000) : n ≤ 1000000000 := by
  have := o.gens.len
  omega
theorem opM_len (m : Menu) (h : m.gens.length ≤ 100000000) (p : Txt) (num : Int) : (addM m p).menu.gens.length ≤ 1000000000 ∧ (removeM m num).menu.gens.length ≤ 1000000000 ∧ (defaultM m num).menu.gens.length ≤ 1000000000 ∧ (nextM m num).menu.gens.length ≤ 1000000000 ∧ (loadM m).gens.length ≤ 1000000000 := by
  refine ⟨?_, ?_, ?_, ?_, ?_⟩
  · unfold addM
    repeat' split
    all_goals simp [refuse, zeroM]
    omega
  · unfold removeM
    repeat' split
    all_goals simp [refuse, zeroM]
    exact Nat.le_trans (List.length_filter_le ..) (by omega)
  · unfold defaultM
    repeat' split
    all_goals simp [refuse, zeroM]
    omega
  · unfold nextM
    repeat' split
    all_goals simp [refuse, zeroM]
    omega
  · rw [(loadM_last m).2.1]
    omega

section
attribute [local go_sem ↓] load_menu_mark store_menu_mark
set_option maxRecDepth 100000 in
set_option maxHeartbeats 8000000 in
theorem menus_any {w : World} {A : Option Addr} {n c : Nat} {m : Menu} (h : GensAt w w.heap.size A n c m.gens) (hpl : ∀ g ∈ m.gens, g.path.length ≤ 1000000000) (hn : n ≤ 100000000) (num : Int) (p : Txt) (hp : p.length ≤ 1000000000) :
    Calls Tryd.prog 8 #[menuV m A n c, .int .i64 num, .string ⟨p.toArray⟩] w fun e w' => e = .returned (.bool true) ∧ Below w.heap.size w w' := by
  have e0 : menuV m A n c = .agg #[.int .i64 m.last, .int .i64 m.def_, .int .i64 m.next, .int .i64 m.trial, .slice A n c] := rfl
  obtain ⟨W1, hW1⟩ : ∃ W1, W1 = w.alloc (.cells #[.int .i64 m.last, .int .i64 m.def_, .int .i64 m.next, .int .i64 m.trial, .slice A n c] 63) := ⟨_, rfl⟩
  have hb1 : Below w.heap.size w W1 := by rw [hW1]; exact (Below.refl _ w).alloc (Nat.le_refl _) _
  have hM1 : MenuBlk W1 w.heap.size m A n c := by rw [hW1]; exact Blk.new _ _ _
  have hsh := shown_any W1
  have hn9 : n ≤ 1000000000 := by omega
  have HN := Lib.hid (opM_len m (by rw [h.len]; exact hn) p num)
  have HG3 := Lib.hid (fun (W' : World) (hb : Below w.heap.size w W') => h.below hb)
  have HPL := Lib.hid hpl
  have HLEN := Lib.hid h.len
  rw [hW1] at hsh
  clear h
  rw [e0]
  go_enter Tryd.func8, Tryd.ntmps8
  go_wp2_with (first
    | (go_at_call 24; refine hsh.mono ?_; clear hsh; rintro e2 ws ⟨rfl, hbs⟩; rw [← hW1] at hbs; have hbS := hb1.trans (hbs.mono hb1.size); have hMs := hM1.below hbs hM1.lt; have hl3 := hMs.load; have hcp := copied_any (HG3.out ws hbS) hbS.size hn9; clear hM1 hW1 hbs)
    | (go_at_call 30; refine hcp.mono ?_; clear hcp hl3; rintro e3 wc ⟨A8, c8, rfl, hC⟩; have hbC := hbS.trans (hC.bel.mono hbS.size); have hMc := hMs.below hC.bel hMs.lt; have HWC := Lib.hid hbC.size; have H38 := Lib.hid hMc.lt; have HG8 := Lib.hid (fun (W' : World) (hb : Below wc.heap.size wc W') => hC.gens.below hb); have HROOM := Lib.hid hC.room; have HMORE := Lib.hid hC.more; obtain ⟨hst8, hB8, hn8⟩ := new_menu wc m A8 n c8; have hS := Stb.cons (w := w) (w2 := wc) (L := [(w.heap.size, mnCells m A n c)]) ⟨hbC.trans (hn8.mono hbC.size), hn8, fun p hp => (by rw [List.mem_singleton.1 hp]; exact hMc.below hn8 hMc.lt)⟩ hB8; have hl8 := hB8.load; have hct := add_any (HG8.out _ hS.b2) hS.b2.size HPL.out hn9 p hp; clear hC hMs hMc hbS hbC hn8 hB8)
    | (go_at_call 31; refine hct.mono ?_; clear hct hst8 hl8; rintro e4 wa ⟨va, rfl, hga⟩; obtain ⟨Aa, na, ca, Wa, rfl, hsa, hla, hSa, hOa, hba, hza, hzz⟩ := grp_new hS hga; clear hS hga; have H89 := Lib.hid (show wc.heap.size < wa.heap.size from (by have h := hzz; rw [size_setRow, World.size_alloc] at h; omega)); have hl3 := MenuBlk.load (hSa.kp _ (List.Mem.tail _ (List.Mem.tail _ (List.Mem.head _)))); have hrt := refAdd_any (HG3.out _ hSa.b0) hSa.b0.size HPL.out hn9 p hp)
    | (go_at_call 32; refine hrt.mono ?_; clear hrt hsa hla hl3; rintro e5 wb ⟨vb, rfl, hgb⟩; obtain ⟨Ab, nb, cb, Wb, rfl, hsb, hlb, hSb, hOb, hbb, hzb, hzz2⟩ := grp_new hSa hgb; have hOa2 := hOa.new (t := wb.heap.size) (cs := mnCells (addM m p).menu Ab nb cb) hzz2 hbb; clear hSa hgb hOa hba; have H912 := Lib.hid (show wa.heap.size < wb.heap.size by omega); have hl9 := MenuBlk.load (hSb.kp _ (List.Mem.tail _ (List.Mem.head _))); have hsm := same_any hOa2.gens hOb.gens (Nat.le_refl _))
    | (go_at_call 33; refine hsm.mono ?_; clear hsm hsb hlb hl9; rintro e6 wd0 ⟨rfl, hbd⟩; have hS3 := hSb.below hbd; have hO3 := hOa2.below hbd; clear hSb hOb hOa2 hbd; have hl9 := MenuBlk.load (hS3.kp _ (List.Mem.tail _ (List.Mem.head _))); have hsp := spoil_any hO3.own hS3.b2.size (hO3.n9 HN.out.1))
    | (go_at_call 34; refine hsp.mono ?_; clear hsp hl9; rintro e7 we0 ⟨rfl, hge⟩; have hS := hS3.spoil hO3 HWC.out hge; clear hS3 hO3 hge; have hl8 := MenuBlk.load (hS.kp _ (List.Mem.tail _ (List.Mem.tail _ (List.Mem.head _)))); have hct1 := remove_any (HG8.out _ hS.b2) hS.b2.size HPL.out hn9 num)
    | (go_at_call 35; refine hct1.mono ?_; clear hct1 hl8; rintro e4 wa1 ⟨va, rfl, hga⟩; obtain ⟨Aa, na, ca, Wa, rfl, hsa, hla, hSa, hOa, -⟩ := grp_set hS.swap (ne3 (by have := H912.out; omega) (by have := H89.out; omega) (by have := H89.out; have := H38.out; omega)) (by have := H89.out; omega) HWC.out rfl hga; clear hS hga; have hl3 := MenuBlk.load (hSa.kp _ (List.Mem.tail _ (List.Mem.tail _ (List.Mem.tail _ (List.Mem.head _))))); have hrt1 := refRemove_any (HG3.out _ hSa.b0) hSa.b0.size HPL.out hn9 num)
    | (go_at_call 36; refine hrt1.mono ?_; clear hrt1 hsa hla hl3; rintro e5 wb1 ⟨vb, rfl, hgb⟩; obtain ⟨Ab, nb, cb, Wb, rfl, hsb, hlb, hSb, hOb, hK⟩ := grp_set hSa.swap (ne3 (by have := H912.out; omega) (by have := H912.out; have := H89.out; omega) (by have := H912.out; have := H89.out; have := H38.out; omega)) (by have := H912.out; have := H89.out; omega) HWC.out rfl hgb; have hOa2 := hK hOa.swap; clear hSa hgb hOa hK; have hl9 := MenuBlk.load (hSb.kp _ (List.Mem.tail _ (List.Mem.head _))); have hsm1 := same_any hOa2.gens hOb.gens (Nat.le_refl _))
    | (go_at_call 33; refine hsm1.mono ?_; clear hsm1 hsb hlb hl9; rintro e6 wd1 ⟨rfl, hbd⟩; have hS3 := hSb.below hbd; have hO3 := hOa2.below hbd; clear hSb hOb hOa2 hbd; have hl9 := MenuBlk.load (hS3.kp _ (List.Mem.tail _ (List.Mem.head _))); have hsp1 := spoil_any hO3.own hS3.b2.size (hO3.n9 HN.out.2.1))
    | (go_at_call 34; refine hsp1.mono ?_; clear hsp1 hl9; rintro e7 we1 ⟨rfl, hge⟩; have hS := hS3.spoil hO3 HWC.out hge; clear hS3 hO3 hge; have hl8 := MenuBlk.load (hS.kp _ (List.Mem.tail _ (List.Mem.tail _ (List.Mem.head _)))); have hct2 := default_any (HG8.out _ hS.b2) hS.b2.size HPL.out hn9 num)
    | (go_at_call 29; refine hct2.mono ?_; clear hct2 hl8; rintro e4 wa2 ⟨va, rfl, hga⟩; obtain ⟨Aa, na, ca, Wa, rfl, hsa, hla, hSa, hOa, -⟩ := grp_set hS.swap (ne3 (by have := H912.out; omega) (by have := H89.out; omega) (by have := H89.out; have := H38.out; omega)) (by have := H89.out; omega) HWC.out rfl hga; clear hS hga; have hl3 := MenuBlk.load (hSa.kp _ (List.Mem.tail _ (List.Mem.tail _ (List.Mem.tail _ (List.Mem.head _))))); have hrt2 := refDefault_any (HG3.out _ hSa.b0) hSa.b0.size HPL.out hn9 num)
    | (go_at_call 37; refine hrt2.mono ?_; clear hrt2 hsa hla hl3; rintro e5 wb2 ⟨vb, rfl, hgb⟩; obtain ⟨Ab, nb, cb, Wb, rfl, hsb, hlb, hSb, hOb, hK⟩ := grp_set hSa.swap (ne3 (by have := H912.out; omega) (by have := H912.out; have := H89.out; omega) (by have := H912.out; have := H89.out; have := H38.out; omega)) (by have := H912.out; have := H89.out; omega) HWC.out rfl hgb; have hOa2 := hK hOa.swap; clear hSa hgb hOa hK; have hl9 := MenuBlk.load (hSb.kp _ (List.Mem.tail _ (List.Mem.head _))); have hsm2 := same_any hOa2.gens hOb.gens (Nat.le_refl _))
    | (go_at_call 33; refine hsm2.mono ?_; clear hsm2 hsb hlb hl9; rintro e6 wd2 ⟨rfl, hbd⟩; have hS3 := hSb.below hbd; have hO3 := hOa2.below hbd; clear hSb hOb hOa2 hbd; have hl9 := MenuBlk.load (hS3.kp _ (List.Mem.tail _ (List.Mem.head _))); have hsp2 := spoil_any hO3.own hS3.b2.size (hO3.n9 HN.out.2.2.1))
    | (go_at_call 34; refine hsp2.mono ?_; clear hsp2 hl9; rintro e7 we2 ⟨rfl, hge⟩; have hS := hS3.spoil hO3 HWC.out hge; clear hS3 hO3 hge; have hl8 := MenuBlk.load (hS.kp _ (List.Mem.tail _ (List.Mem.tail _ (List.Mem.head _)))); have hct3 := next_any (HG8.out _ hS.b2) hS.b2.size HPL.out hn9 num)
    | (go_at_call 27; refine hct3.mono ?_; clear hct3 hl8; rintro e4 wa3 ⟨va, rfl, hga⟩; obtain ⟨Aa, na, ca, Wa, rfl, hsa, hla, hSa, hOa, -⟩ := grp_set hS.swap (ne3 (by have := H912.out; omega) (by have := H89.out; omega) (by have := H89.out; have := H38.out; omega)) (by have := H89.out; omega) HWC.out rfl hga; clear hS hga; have hl3 := MenuBlk.load (hSa.kp _ (List.Mem.tail _ (List.Mem.tail _ (List.Mem.tail _ (List.Mem.head _))))); have hrt3 := refNext_any (HG3.out _ hSa.b0) hSa.b0.size HPL.out hn9 num)
    | (go_at_call 38; refine hrt3.mono ?_; clear hrt3 hsa hla hl3; rintro e5 wb3 ⟨vb, rfl, hgb⟩; obtain ⟨Ab, nb, cb, Wb, rfl, hsb, hlb, hSb, hOb, hK⟩ := grp_set hSa.swap (ne3 (by have := H912.out; omega) (by have := H912.out; have := H89.out; omega) (by have := H912.out; have := H89.out; have := H38.out; omega)) (by have := H912.out; have := H89.out; omega) HWC.out rfl hgb; have hOa2 := hK hOa.swap; clear hSa hgb hOa hK; have hl9 := MenuBlk.load (hSb.kp _ (List.Mem.tail _ (List.Mem.head _))); have hsm3 := same_any hOa2.gens hOb.gens (Nat.le_refl _))
    | (go_at_call 33; refine hsm3.mono ?_; clear hsm3 hsb hlb hl9; rintro e6 wd3 ⟨rfl, hbd⟩; have hS3 := hSb.below hbd; have hO3 := hOa2.below hbd; clear hSb hOb hOa2 hbd; have hl9 := MenuBlk.load (hS3.kp _ (List.Mem.tail _ (List.Mem.head _))); have hsp3 := spoil_any hO3.own hS3.b2.size (hO3.n9 HN.out.2.2.2.1))
    | (go_at_call 34; refine hsp3.mono ?_; clear hsp3 hl9; rintro e7 we3 ⟨rfl, hge⟩; have hS := hS3.spoil hO3 HWC.out hge; clear hS3 hO3 hge; have hl8 := MenuBlk.load (hS.kp _ (List.Mem.tail _ (List.Mem.tail _ (List.Mem.head _)))); have hbf := before_any (HG8.out _ hS.b2) hS.b2.size num)
    | (go_at_call 39; refine hbf.mono ?_; clear hbf hl8; rintro e8 wf ⟨rfl, hbF⟩; have hSf := hS.below hbF; clear hS hbF; have hl3 := MenuBlk.load (hSf.kp _ (List.Mem.tail _ (List.Mem.tail _ (List.Mem.tail _ (List.Mem.head _))))); have hrb := refBefore_any (HG3.out _ hSf.b0) hSf.b0.size num)
    | (go_at_call 40; refine hrb.mono ?_; clear hrb hl3; rintro e9 wg ⟨rfl, hbG⟩; have hSg := hSf.below hbG; clear hSf hbG; have hl8 := MenuBlk.load (hSg.kp _ (List.Mem.tail _ (List.Mem.tail _ (List.Mem.head _)))); have hld := load_any (HG8.out _ hSg.b2) hSg.b2.size hn9)
    | (go_at_call 28; refine hld.mono ?_; clear hld hl8; rintro e10 wh ⟨vh, rfl, hgh⟩; obtain ⟨Ah, nh, ch, Wh, rfl, hsh, hlh, hSh, hOh, hbh, hzh, hzz⟩ := grp_new hSg hgh; clear hSg hgh; have hl3 := MenuBlk.load (hSh.kp _ (List.Mem.tail _ (List.Mem.tail _ (List.Mem.tail _ (List.Mem.tail _ (List.Mem.head _)))))); have hrl := refLoad_any (HG3.out _ hSh.b0) hSh.b0.size hn9)
    | (go_at_call 41; refine hrl.mono ?_; clear hrl hsh hlh hl3; rintro e11 wi ⟨vi, rfl, hgi⟩; obtain ⟨Ai, ni, ci, Wi, rfl, hsi, hli, hSi, hOi, hbi, hzi, hzz2⟩ := grp_new hSh hgi; have hOh2 := hOh.new (t := wi.heap.size) (cs := mnCells (loadM m) Ai ni ci) hzz2 hbi; clear hSh hgi hOh hbh; have hl18 := MenuBlk.load (hSi.kp _ (List.Mem.tail _ (List.Mem.head _))); have hsmL := same_any hOh2.gens hOi.gens (Nat.le_refl _))
    | (go_at_call 33; refine hsmL.mono ?_; clear hsmL hsi hli hl18; rintro e12 wj ⟨rfl, hbj⟩; have hSj := hSi.below hbj; have hOj := hOh2.below hbj; clear hSi hOi hOh2 hbj; have hl18 := MenuBlk.load (hSj.kp _ (List.Mem.tail _ (List.Mem.head _))); have hspL := spoil_any hOj.own hSj.b2.size (hOj.n9 HN.out.2.2.2.2))
    | (go_at_call 34; refine hspL.mono ?_; clear hspL hl18; rintro e13 wk ⟨rfl, hgk⟩; have hSk := hSj.spoil hOj HWC.out hgk; clear hSj hOj hgk; have hl8 := MenuBlk.load (hSk.kp _ (List.Mem.tail _ (List.Mem.tail _ (List.Mem.tail _ (List.Mem.tail _ (List.Mem.head _)))))); have hl3 := MenuBlk.load (hSk.kp _ (List.Mem.tail _ (List.Mem.tail _ (List.Mem.tail _ (List.Mem.tail _ (List.Mem.tail _ (List.Mem.head _))))))); have hsmZ := same_any (HG8.out _ hSk.b2) ((HG3.out _ hSk.b0).more HWC.out) hSk.b2.size)
    | (go_at_call 33; refine hsmZ.mono ?_; clear hsmZ hl8 hl3; rintro e14 wl ⟨rfl, hbl⟩; have hSl := hSk.below hbl; clear hSk hbl; obtain ⟨g8, hA8, hmore⟩ := HMORE.out; have hroom := HROOM.out; have hx := (hSl.b2.cell (p := ⟨g8, n * 2, none⟩) (World.block_lt_of_cell? _ _ hmore)).trans hmore; subst hA8; obtain ⟨o0, o1, o2, o3, o4, of⟩ := MenuBlk.facts (show MenuBlk wl wc.heap.size m _ n c8 from hSl.kp _ (List.Mem.tail _ (List.Mem.tail _ (List.Mem.tail _ (List.Mem.tail _ (List.Mem.head _)))))); obtain ⟨i0, i1, i2, i3, i4, if_⟩ := MenuBlk.facts (show MenuBlk wl w.heap.size m A n c from hSl.kp _ (List.Mem.tail _ (List.Mem.tail _ (List.Mem.tail _ (List.Mem.tail _ (List.Mem.tail _ (List.Mem.head _)))))))))
  go_ret
  exact ⟨rfl, hSl.b0⟩
end
end Go.Proofs.YtdhlklidenfbeaaDoor
