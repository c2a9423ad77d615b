/- activate.Entries; the document's examples (bootjacklaw21.shown). The walk of ActivateParses. -/
import Derived.Test.YtibndaianhlcaaaGreatDoorPart35
import Derived.Test.YtibndaianhlcaaaGreatDoorPart28
import Derived.Test.YtibndaianhlcaaaGreatDoorPart31
import Derived.Test.YtibndaianhlcaaaGreatDoorPart34
namespace Go.Proofs.YtibndaianhlcaaaGreatDoor
open Go.RowKit Go.Sort Go.Shelf
open Go.WideShapes (bytes_inj)
set_option linter.unusedVariables false
set_option linter.unusedSimpArgs false

def NoEnts (w : World) : Ending → World → Prop := fun e w' => e = .returned (.slice none 0 0) ∧ Below w.heap.size w w'
set_option maxRecDepth 100000 in
set_option maxHeartbeats 1000000 in
theorem Entries21_any {w : World} {B : Nat} {o : OV} (h : ObsAt w B o) (hB : B ≤ w.heap.size) (hs : SmallO o) :
    Calls Tryz.prog 13 #[.agg (ovArr o)] w fun e w' => if rightS (sysO o) = true then LaidPost w o e w' else NoEnts w e w' := by
  obtain ⟨W0, hW0⟩ : ∃ W0, W0 = w.alloc (.cells (ovArr o) 26) := ⟨_, rfl⟩
  have hb0 : Below w.heap.size w W0 := by rw [hW0]; exact bel_new _ _
  have hG0 : Blk W0 w.heap.size 26 (ovArr o) := by rw [hW0]; exact Blk.new _ _ _
  have hr := right21_any (h.below (hb0.mono hB)) (Nat.le_trans hB hb0.size) hs
  have HENT := Lib.hid (fun (W : World) (hb : Below w.heap.size w W) (hr : rightS (sysO o) = true) => entries21_any (h.below (hb.mono hB)) (Nat.le_trans hB hb.size) hs (by have h9 := (right_parts hr).2.1; have := h.users.len; simp at this; rw [← this]; exact h9) (by have h9 := (right_parts hr).2.2.1; have := h.units.len; rw [← this]; simpa [sysO] using h9))
  have HK := Lib.hid (fun (W : World) (hW : Below W0.heap.size W0 W) => hG0.below hW hG0.lt)
  have HB0 := Lib.hid hb0
  rw [hW0] at hr
  obtain ⟨A, n, c, es, A2, n2, c2, users, A3, n3, c3, us⟩ := o
  unfold ovArr at hr HK HENT hW0 ⊢
  simp only at hr HK HENT hW0 ⊢
  have HW0 := Lib.hid hW0
  clear hb0 hG0 hW0 h
  cases hrt : rightS (sysO ⟨A, n, c, es, A2, n2, c2, users, A3, n3, c3, us⟩) with
  | false =>
    rw [hrt] at hr
    simp only [Bool.false_eq_true, if_false]
    clear hrt HENT
    go_enter Tryz.func13, Tryz.ntmps13
    go_wp2_with (go_at_call 15; refine hr.mono ?_; clear hr; rintro e2 w2 ⟨rfl, hb2⟩; rw [← HW0.out] at hb2)
    go_ret
    exact ⟨rfl, HB0.out.trans (hb2.mono HB0.out.size)⟩
  | true =>
    have HR := Lib.hid hrt
    rw [hrt] at hr
    simp only [if_true]
    clear hrt
    go_enter Tryz.func13, Tryz.ntmps13
    go_wp2_with (first
      | (go_at_call 15; refine hr.mono ?_; clear hr; rintro e2 w2 ⟨rfl, hb2⟩; rw [← HW0.out] at hb2; have hG2 := HK.out w2 hb2; have y0 := hG2.cell 0; have y1 := hG2.cell 1; have y2 := hG2.cell 2; simp only [List.getElem?_toArray, List.getElem?_cons_zero, List.getElem?_cons_succ] at y0 y1 y2; have HB2 := Lib.hid (HB0.out.trans (hb2.mono HB0.out.size)); have hent := HENT.out w2 HB2.out HR.out; clear hb2 hG2)
      | (go_at_call 37; refine hent.mono ?_; clear hent; rintro e4 w4 ⟨A', n', c', es', fs, x, rfl, h1, h2, h3, h4, hb4⟩; have HP := Lib.hid (And.intro h1 (And.intro h2 (And.intro h3 (And.intro h4 hb4)))); clear h1 h2 h3 h4 hb4))
    go_ret
    obtain ⟨h1, h2, h3, h4, h5⟩ := HP.out
    have hz := HB2.out.size
    refine ⟨A', n', c', es', fs, x, rfl, h1, h2, ⟨h3.ents, fun a ha => ?_, fun e he => ?_⟩, h4, HB2.out.trans (h5.mono hz)⟩
    · have := h3.row a ha; omega
    · obtain ⟨g, d1, d2, d3⟩ := h3.data e he
      exact ⟨g, d1, by omega, d3⟩
theorem Entries21_right {w : World} {B : Nat} {o : OV} (h : ObsAt w B o) (hB : B ≤ w.heap.size) (hs : SmallO o) (hr : rightS (sysO o) = true) : Calls Tryz.prog 13 #[.agg (ovArr o)] w (LaidPost w o) :=
  (Entries21_any h hB hs).mono fun e w' h9 => by rwa [if_pos hr] at h9
theorem Entries21_none {w : World} {B : Nat} {o : OV} (h : ObsAt w B o) (hB : B ≤ w.heap.size) (hs : SmallO o) (hr : rightS (sysO o) = false) : Calls Tryz.prog 13 #[.agg (ovArr o)] w (NoEnts w) :=
  (Entries21_any h hB hs).mono fun e w' h9 => by rwa [if_neg (by rw [hr]; decide)] at h9
set_option maxRecDepth 100000 in
theorem unitL_any (a b : ByteArray) (w : World) : Calls Tryz.prog 35 #[.string a, .string b] w fun e w' => e = .returned (.agg #[.string a, .string b, .slice none 0 0, .slice none 0 0]) ∧ w' = w.alloc (.cells #[.string a, .string b, .slice none 0 0, .slice none 0 0] 59) := by
  have HR := Blk.new w 59 #[.string a, .string b, .slice none 0 0, .slice none 0 0]
  go_enter Tryz.func35, Tryz.ntmps35
  go_wp2_with (fail)
  exact bodyPost_ret (results_aggr (t := 4) (g := w.heap.size) rfl rfl Tryz.isAgg59 Tryz.sizeOf59 rfl HR) rfl ⟨rfl, rfl⟩
def su21 (n s : Txt) : SV := ⟨n, s, [], none, 0, 0, [], none, 0, 0⟩
def uc21 (n s : Txt) : List Value := [.string ⟨n.toArray⟩, .string ⟨s.toArray⟩, .slice none 0 0, .slice none 0 0]
/-- What the examples keep in memory. -/
def ovS (s g : Nat) (n : Txt) (us : List SV) : OV := ⟨none, 0, 0, [], some ⟨s, 0, none⟩, 1, 1, [n], some ⟨g, 0, none⟩, 2, 2, us⟩
theorem obs_s {W : World} {B s g : Nat} {n : Txt} {a b : Txt × Txt} (h1 : Blk W s 9 #[.string ⟨n.toArray⟩]) (h2 : Blk W g 59 (uc21 a.1 a.2 ++ uc21 b.1 b.2).toArray) (hs : s < B) (hg : g < B) : ObsAt W B (ovS s g n [su21 a.1 a.2, su21 b.1 b.2]) := by
  refine ⟨⟨slc_none _ _ _, rfl, fun e he => by cases he⟩, ?_, ⟨?_, rfl, fun u hu => ?_, fun u hu => ?_⟩⟩
  · exact (h1.slc (sz := 1) (n := 1) (c := 1) (Nat.le_refl _) (Nat.le_refl _) (by decide)).more hs
  · exact (h2.slc (sz := 4) (n := 2) (c := 2) (Nat.le_refl _) (Nat.le_refl _) (by decide)).more hg
  · rcases List.mem_cons.1 hu with rfl | hu
    · exact slc_none _ _ _
    · rw [List.mem_singleton.1 hu]; exact slc_none _ _ _
  · rcases List.mem_cons.1 hu with rfl | hu
    · exact slc_none _ _ _
    · rw [List.mem_singleton.1 hu]; exact slc_none _ _ _
def nowS (s g : Nat) : OV := ovS s g [97] [su21 [117] [121], su21 [118] [122]]
def sysS (s g : Nat) : OV := ovS s g [98] [su21 [117] [121], su21 [119] [120]]
def pNow : SysP := ⟨[], [[97]], [⟨[117], [121], [], []⟩, ⟨[118], [122], [], []⟩]⟩
def pSys : SysP := ⟨[], [[98]], [⟨[117], [121], [], []⟩, ⟨[119], [120], [], []⟩]⟩
theorem shown_right : rightS pSys = true := by decide +kernel
theorem shown_acts : actsR pNow pSys = [⟨1, [118], ent0, srv0⟩, ⟨3, [97], ent0, srv0⟩, ⟨5, [98], ent0, srv0⟩, ⟨6, [119], ent0, ⟨[119], [120], [], []⟩⟩] := by
  unfold actsR
  rw [if_pos shown_right]
  rfl
theorem small_s (s g : Nat) (n : Txt) (us : List SV) (hn : n.length ≤ 10) (hu : ∀ u ∈ us, SmallU u) : SmallO (ovS s g n us) :=
  ⟨(fun e he => by cases he), (fun t ht => by rw [List.mem_singleton.1 ht]; omega), hu, by show 0 ≤ 1048576; omega, by show 1 ≤ 1048576; omega, by show 2 ≤ 1048576; omega⟩
theorem small_su (n s : Txt) (hn : n.length ≤ 10) (hs : s.length ≤ 10) : SmallU (su21 n s) := ⟨by show n.length ≤ _; omega, by show s.length ≤ _; omega, (fun t ht => by cases ht), by show 0 ≤ 1048576; omega, by show 0 ≤ 1048576; omega⟩
theorem simple_plain {w : World} {B : Nat} {a : AV} (h : ActAt w B a) {kind : Int} {name : Txt} (ha : a.act = ⟨kind, name, ent0, srv0⟩) (hk : kind = 1 ∨ kind = 3 ∨ kind = 5) (hn : nameB name = true) (hl : name.length ≤ 1048576) : SimpleA a := by
  obtain ⟨k, nm, ⟨fp, fk, fd, fA, fn, fc⟩, ⟨un, us, ur, uA, u1, uc, ua, uB, u2, ud⟩⟩ := a
  obtain ⟨h1, h2, h3⟩ := h
  simp only [AV.act, EV.ent, SV.srv, ent0, srv0, ActP.mk.injEq, Ent.mk.injEq, Srv.mk.injEq] at ha
  obtain ⟨rfl, rfl, ⟨rfl, rfl, rfl⟩, rfl, rfl, rfl, rfl⟩ := ha
  have e1 : fn = 0 := by have := h1.len; simpa using this.symm
  have e2 : u1 = 0 := by have := h2.len; simpa using this.symm
  have e3 : u2 = 0 := by have := h3.len; simpa using this.symm
  subst e1 e2 e3
  exact SimpleA.plain _ _ _ _ _ _ _ _ hk hn hl
theorem simple_unit {w : World} {B : Nat} {a : AV} (h : ActAt w B a) {name st : Txt} (ha : a.act = ⟨6, name, ent0, ⟨name, st, [], []⟩⟩) (hm : mayU ⟨name, st, [], []⟩ = true) (hn : name.length ≤ 100) (hs : st.length ≤ 100) : SimpleA a := by
  obtain ⟨k, nm, ⟨fp, fk, fd, fA, fn, fc⟩, ⟨un, us, ur, uA, u1, uc, ua, uB, u2, ud⟩⟩ := a
  obtain ⟨h1, h2, h3⟩ := h
  simp only [AV.act, EV.ent, SV.srv, ent0, ActP.mk.injEq, Ent.mk.injEq, Srv.mk.injEq] at ha
  obtain ⟨rfl, rfl, ⟨rfl, rfl, rfl⟩, rfl, rfl, rfl, rfl⟩ := ha
  have e1 : fn = 0 := by have := h1.len; simpa using this.symm
  have e2 : u1 = 0 := by have := h2.len; simpa using this.symm
  have e3 : u2 = 0 := by have := h3.len; simpa using this.symm
  subst e1 e2 e3
  exact SimpleA.unit ⟨un, us, [], uA, 0, uc, [], uB, 0, ud⟩ fA fc hm ⟨by show un.length ≤ _; omega, by show us.length ≤ _; omega, (fun t ht => by cases ht), by show 0 ≤ 1048576; omega, by show 0 ≤ 1048576; omega⟩ (by simp [linesU, SV.srv]; omega)
def scriptP (l : List ActP) : Txt := l.flatMap fun x => headA noDec x ++ 10 :: bodyA x
theorem script_acts (l : List AV) : scriptT l = scriptP (l.map AV.act) := by
  unfold scriptT scriptP
  rw [List.flatMap_map]
  rfl
theorem shown_simple {w : World} {B : Nat} {A : Option Addr} {n c : Nat} {l : List AV} (h : ActsAt w B A n c l) (hl : l.map AV.act = [⟨1, [118], ent0, srv0⟩, ⟨3, [97], ent0, srv0⟩, ⟨5, [98], ent0, srv0⟩, ⟨6, [119], ent0, ⟨[119], [120], [], []⟩⟩]) : n = 4 ∧ (∀ a ∈ l, SimpleA a) ∧ scriptT l ++ wEnd = [115, 116, 111, 112, 32, 118, 10, 100, 114, 111, 112, 32, 97, 10, 117, 115, 101, 114, 32, 98, 10, 115, 116, 97, 114, 116, 32, 119, 10, 114, 117, 110, 32, 120, 10, 101, 110, 100, 10] := by
  refine ⟨?_, fun a ha => ?_, ?_⟩
  · have h1 := h.len
    have h2 := congrArg List.length hl
    rw [List.length_map] at h2
    rw [← h1, h2]
    rfl
  · have hm : a.act ∈ l.map AV.act := List.mem_map.2 ⟨a, ha, rfl⟩
    rw [hl] at hm
    have hat := h.acts a ha
    rcases List.mem_cons.1 hm with e | hm
    · exact simple_plain hat e (.inl rfl) (by decide) (by decide)
    rcases List.mem_cons.1 hm with e | hm
    · exact simple_plain hat e (.inr (.inl rfl)) (by decide) (by decide)
    rcases List.mem_cons.1 hm with e | hm
    · exact simple_plain hat e (.inr (.inr rfl)) (by decide) (by decide)
    · exact simple_unit hat (List.mem_singleton.1 hm) (by decide) (by decide) (by decide)
  · rw [script_acts, hl]
    rfl
theorem shown_laid {w : World} {A : Option Addr} {n c : Nat} {es : List EV} {base : Nat} (h : LaidAt w base A n c es) (he : es.map EV.ent = laidS pSys) : n = 1 ∧ ∃ (b off : Nat) (x : EV), A = some ⟨b, off, none⟩ ∧ b < w.heap.size ∧ w.cell? ⟨b, off, none⟩ = some (.string ⟨#[115, 121, 115, 116, 101, 109]⟩) ∧ w.cell? ⟨b, off + 2, none⟩ = some (.slice x.A x.n x.c) ∧ Slc w w.heap.size 1 x.A x.n x.c (([117, 115, 101, 114, 32, 98, 10, 117, 110, 105, 116, 32, 117, 10, 114, 117, 110, 32, 121, 10, 117, 110, 105, 116, 32, 119, 10, 114, 117, 110, 32, 120, 10, 101, 110, 100, 10] : Txt).map bv) := by
  have h1 := h.ents.len
  have h2 := congrArg List.length he
  rw [List.length_map] at h2
  have hn : n = 1 := by rw [← h1, h2]; rfl
  subst hn
  obtain ⟨b, off, e, hb, hl, c0, c1, c2, hS⟩ := h.ents.at_ (k := 0) (by omega)
  have hx : es[0].ent = ⟨[115, 121, 115, 116, 101, 109], 1, textS pSys⟩ := by
    have : (es.map EV.ent)[0]? = some ⟨[115, 121, 115, 116, 101, 109], 1, textS pSys⟩ := by rw [he]; rfl
    rw [List.getElem?_map, List.getElem?_eq_getElem hl] at this
    exact Option.some.inj this
  have hp : es[0].path = [115, 121, 115, 116, 101, 109] := congrArg Ent.path hx
  have hd : es[0].data = textS pSys := congrArg Ent.data hx
  rw [hp] at c0
  rw [hd] at hS
  exact ⟨rfl, b, off, es[0], e, hb, by simpa using c0, by simpa using c2, hS⟩
set_option maxRecDepth 100000 in
theorem sh_world (w : World) : ∃ W, W = ((((((((((w.alloc (.cells #[.string ⟨#[97]⟩] 9)).alloc (.cells #[.string ⟨#[117]⟩, .string ⟨#[121]⟩, .slice none 0 0, .slice none 0 0] 59)).alloc (.cells #[.string ⟨#[118]⟩, .string ⟨#[122]⟩, .slice none 0 0, .slice none 0 0] 59)).alloc (.cells #[.string ⟨#[117]⟩, .string ⟨#[121]⟩, .slice none 0 0, .slice none 0 0, .string ⟨#[118]⟩, .string ⟨#[122]⟩, .slice none 0 0, .slice none 0 0] 59)).alloc (.cells #[.slice none 0 0, .slice (some ⟨w.heap.size, 0, none⟩) 1 1, .slice (some ⟨w.heap.size + 1 + 1 + 1, 0, none⟩) 2 2] 28)).alloc (.cells #[.string ⟨#[98]⟩] 9)).alloc (.cells #[.string ⟨#[117]⟩, .string ⟨#[121]⟩, .slice none 0 0, .slice none 0 0] 59)).alloc (.cells #[.string ⟨#[119]⟩, .string ⟨#[120]⟩, .slice none 0 0, .slice none 0 0] 59)).alloc (.cells #[.string ⟨#[117]⟩, .string ⟨#[121]⟩, .slice none 0 0, .slice none 0 0, .string ⟨#[119]⟩, .string ⟨#[120]⟩, .slice none 0 0, .slice none 0 0] 59)).alloc (.cells #[.slice none 0 0, .slice (some ⟨w.heap.size + 1 + 1 + 1 + 1 + 1, 0, none⟩) 1 1, .slice (some ⟨w.heap.size + 1 + 1 + 1 + 1 + 1 + 1 + 1 + 1, 0, none⟩) 2 2] 26)) ∧ Below w.heap.size w W ∧ W.heap.size = w.heap.size + 1 + 1 + 1 + 1 + 1 + 1 + 1 + 1 + 1 + 1 ∧
    Blk W w.heap.size 9 #[.string ⟨#[97]⟩] ∧ Blk W (w.heap.size + 1 + 1 + 1) 59 #[.string ⟨#[117]⟩, .string ⟨#[121]⟩, .slice none 0 0, .slice none 0 0, .string ⟨#[118]⟩, .string ⟨#[122]⟩, .slice none 0 0, .slice none 0 0] ∧ Blk W (w.heap.size + 1 + 1 + 1 + 1 + 1) 9 #[.string ⟨#[98]⟩] ∧ Blk W (w.heap.size + 1 + 1 + 1 + 1 + 1 + 1 + 1 + 1) 59 #[.string ⟨#[117]⟩, .string ⟨#[121]⟩, .slice none 0 0, .slice none 0 0, .string ⟨#[119]⟩, .string ⟨#[120]⟩, .slice none 0 0, .slice none 0 0] ∧ Blk W (w.heap.size + 1 + 1 + 1 + 1 + 1 + 1 + 1 + 1 + 1) 26 #[.slice none 0 0, .slice (some ⟨w.heap.size + 1 + 1 + 1 + 1 + 1, 0, none⟩) 1 1, .slice (some ⟨w.heap.size + 1 + 1 + 1 + 1 + 1 + 1 + 1 + 1, 0, none⟩) 2 2] := by
  obtain ⟨X0, hX0⟩ : ∃ X, X = w.alloc (.cells #[.string ⟨#[97]⟩] 9) := ⟨_, rfl⟩
  have z0 : X0.heap.size = w.heap.size + 1 := by rw [hX0, World.size_alloc]
  have b0 : Below w.heap.size w X0 := by rw [hX0]; exact (Below.refl _ w).alloc (Nat.le_refl _) _
  obtain ⟨X1, hX1⟩ : ∃ X, X = X0.alloc (.cells #[.string ⟨#[117]⟩, .string ⟨#[121]⟩, .slice none 0 0, .slice none 0 0] 59) := ⟨_, rfl⟩
  have z1 : X1.heap.size = w.heap.size + 1 + 1 := by rw [hX1, World.size_alloc, z0]
  have b1 : Below w.heap.size w X1 := by rw [hX1]; exact (b0).alloc (b0.size) _
  obtain ⟨X2, hX2⟩ : ∃ X, X = X1.alloc (.cells #[.string ⟨#[118]⟩, .string ⟨#[122]⟩, .slice none 0 0, .slice none 0 0] 59) := ⟨_, rfl⟩
  have z2 : X2.heap.size = w.heap.size + 1 + 1 + 1 := by rw [hX2, World.size_alloc, z1]
  have b2 : Below w.heap.size w X2 := by rw [hX2]; exact (b1).alloc (b1.size) _
  obtain ⟨X3, hX3⟩ : ∃ X, X = X2.alloc (.cells #[.string ⟨#[117]⟩, .string ⟨#[121]⟩, .slice none 0 0, .slice none 0 0, .string ⟨#[118]⟩, .string ⟨#[122]⟩, .slice none 0 0, .slice none 0 0] 59) := ⟨_, rfl⟩
  have z3 : X3.heap.size = w.heap.size + 1 + 1 + 1 + 1 := by rw [hX3, World.size_alloc, z2]
  have b3 : Below w.heap.size w X3 := by rw [hX3]; exact (b2).alloc (b2.size) _
  obtain ⟨X4, hX4⟩ : ∃ X, X = X3.alloc (.cells #[.slice none 0 0, .slice (some ⟨w.heap.size, 0, none⟩) 1 1, .slice (some ⟨w.heap.size + 1 + 1 + 1, 0, none⟩) 2 2] 28) := ⟨_, rfl⟩
  have z4 : X4.heap.size = w.heap.size + 1 + 1 + 1 + 1 + 1 := by rw [hX4, World.size_alloc, z3]
  have b4 : Below w.heap.size w X4 := by rw [hX4]; exact (b3).alloc (b3.size) _
  obtain ⟨X5, hX5⟩ : ∃ X, X = X4.alloc (.cells #[.string ⟨#[98]⟩] 9) := ⟨_, rfl⟩
  have z5 : X5.heap.size = w.heap.size + 1 + 1 + 1 + 1 + 1 + 1 := by rw [hX5, World.size_alloc, z4]
  have b5 : Below w.heap.size w X5 := by rw [hX5]; exact (b4).alloc (b4.size) _
  obtain ⟨X6, hX6⟩ : ∃ X, X = X5.alloc (.cells #[.string ⟨#[117]⟩, .string ⟨#[121]⟩, .slice none 0 0, .slice none 0 0] 59) := ⟨_, rfl⟩
  have z6 : X6.heap.size = w.heap.size + 1 + 1 + 1 + 1 + 1 + 1 + 1 := by rw [hX6, World.size_alloc, z5]
  have b6 : Below w.heap.size w X6 := by rw [hX6]; exact (b5).alloc (b5.size) _
  obtain ⟨X7, hX7⟩ : ∃ X, X = X6.alloc (.cells #[.string ⟨#[119]⟩, .string ⟨#[120]⟩, .slice none 0 0, .slice none 0 0] 59) := ⟨_, rfl⟩
  have z7 : X7.heap.size = w.heap.size + 1 + 1 + 1 + 1 + 1 + 1 + 1 + 1 := by rw [hX7, World.size_alloc, z6]
  have b7 : Below w.heap.size w X7 := by rw [hX7]; exact (b6).alloc (b6.size) _
  obtain ⟨X8, hX8⟩ : ∃ X, X = X7.alloc (.cells #[.string ⟨#[117]⟩, .string ⟨#[121]⟩, .slice none 0 0, .slice none 0 0, .string ⟨#[119]⟩, .string ⟨#[120]⟩, .slice none 0 0, .slice none 0 0] 59) := ⟨_, rfl⟩
  have z8 : X8.heap.size = w.heap.size + 1 + 1 + 1 + 1 + 1 + 1 + 1 + 1 + 1 := by rw [hX8, World.size_alloc, z7]
  have b8 : Below w.heap.size w X8 := by rw [hX8]; exact (b7).alloc (b7.size) _
  obtain ⟨X9, hX9⟩ : ∃ X, X = X8.alloc (.cells #[.slice none 0 0, .slice (some ⟨w.heap.size + 1 + 1 + 1 + 1 + 1, 0, none⟩) 1 1, .slice (some ⟨w.heap.size + 1 + 1 + 1 + 1 + 1 + 1 + 1 + 1, 0, none⟩) 2 2] 26) := ⟨_, rfl⟩
  have z9 : X9.heap.size = w.heap.size + 1 + 1 + 1 + 1 + 1 + 1 + 1 + 1 + 1 + 1 := by rw [hX9, World.size_alloc, z8]
  have b9 : Below w.heap.size w X9 := by rw [hX9]; exact (b8).alloc (b8.size) _
  have g0 : Blk X0 (w.heap.size) 9 #[.string ⟨#[97]⟩] := by
    have := Blk.new w 9 #[.string ⟨#[97]⟩]
    rw [← hX0] at this
    exact this
  have g0 := g0.alloc (.cells #[.string ⟨#[117]⟩, .string ⟨#[121]⟩, .slice none 0 0, .slice none 0 0] 59)
  rw [← hX1] at g0
  have g0 := g0.alloc (.cells #[.string ⟨#[118]⟩, .string ⟨#[122]⟩, .slice none 0 0, .slice none 0 0] 59)
  rw [← hX2] at g0
  have g0 := g0.alloc (.cells #[.string ⟨#[117]⟩, .string ⟨#[121]⟩, .slice none 0 0, .slice none 0 0, .string ⟨#[118]⟩, .string ⟨#[122]⟩, .slice none 0 0, .slice none 0 0] 59)
  rw [← hX3] at g0
  have g0 := g0.alloc (.cells #[.slice none 0 0, .slice (some ⟨w.heap.size, 0, none⟩) 1 1, .slice (some ⟨w.heap.size + 1 + 1 + 1, 0, none⟩) 2 2] 28)
  rw [← hX4] at g0
  have g0 := g0.alloc (.cells #[.string ⟨#[98]⟩] 9)
  rw [← hX5] at g0
  have g0 := g0.alloc (.cells #[.string ⟨#[117]⟩, .string ⟨#[121]⟩, .slice none 0 0, .slice none 0 0] 59)
  rw [← hX6] at g0
  have g0 := g0.alloc (.cells #[.string ⟨#[119]⟩, .string ⟨#[120]⟩, .slice none 0 0, .slice none 0 0] 59)
  rw [← hX7] at g0
  have g0 := g0.alloc (.cells #[.string ⟨#[117]⟩, .string ⟨#[121]⟩, .slice none 0 0, .slice none 0 0, .string ⟨#[119]⟩, .string ⟨#[120]⟩, .slice none 0 0, .slice none 0 0] 59)
  rw [← hX8] at g0
  have g0 := g0.alloc (.cells #[.slice none 0 0, .slice (some ⟨w.heap.size + 1 + 1 + 1 + 1 + 1, 0, none⟩) 1 1, .slice (some ⟨w.heap.size + 1 + 1 + 1 + 1 + 1 + 1 + 1 + 1, 0, none⟩) 2 2] 26)
  rw [← hX9] at g0
  have g3 : Blk X3 (w.heap.size + 1 + 1 + 1) 59 #[.string ⟨#[117]⟩, .string ⟨#[121]⟩, .slice none 0 0, .slice none 0 0, .string ⟨#[118]⟩, .string ⟨#[122]⟩, .slice none 0 0, .slice none 0 0] := by
    have := Blk.new X2 59 #[.string ⟨#[117]⟩, .string ⟨#[121]⟩, .slice none 0 0, .slice none 0 0, .string ⟨#[118]⟩, .string ⟨#[122]⟩, .slice none 0 0, .slice none 0 0]
    rw [← hX3, z2] at this
    exact this
  have g3 := g3.alloc (.cells #[.slice none 0 0, .slice (some ⟨w.heap.size, 0, none⟩) 1 1, .slice (some ⟨w.heap.size + 1 + 1 + 1, 0, none⟩) 2 2] 28)
  rw [← hX4] at g3
  have g3 := g3.alloc (.cells #[.string ⟨#[98]⟩] 9)
  rw [← hX5] at g3
  have g3 := g3.alloc (.cells #[.string ⟨#[117]⟩, .string ⟨#[121]⟩, .slice none 0 0, .slice none 0 0] 59)
  rw [← hX6] at g3
  have g3 := g3.alloc (.cells #[.string ⟨#[119]⟩, .string ⟨#[120]⟩, .slice none 0 0, .slice none 0 0] 59)
  rw [← hX7] at g3
  have g3 := g3.alloc (.cells #[.string ⟨#[117]⟩, .string ⟨#[121]⟩, .slice none 0 0, .slice none 0 0, .string ⟨#[119]⟩, .string ⟨#[120]⟩, .slice none 0 0, .slice none 0 0] 59)
  rw [← hX8] at g3
  have g3 := g3.alloc (.cells #[.slice none 0 0, .slice (some ⟨w.heap.size + 1 + 1 + 1 + 1 + 1, 0, none⟩) 1 1, .slice (some ⟨w.heap.size + 1 + 1 + 1 + 1 + 1 + 1 + 1 + 1, 0, none⟩) 2 2] 26)
  rw [← hX9] at g3
  have g5 : Blk X5 (w.heap.size + 1 + 1 + 1 + 1 + 1) 9 #[.string ⟨#[98]⟩] := by
    have := Blk.new X4 9 #[.string ⟨#[98]⟩]
    rw [← hX5, z4] at this
    exact this
  have g5 := g5.alloc (.cells #[.string ⟨#[117]⟩, .string ⟨#[121]⟩, .slice none 0 0, .slice none 0 0] 59)
  rw [← hX6] at g5
  have g5 := g5.alloc (.cells #[.string ⟨#[119]⟩, .string ⟨#[120]⟩, .slice none 0 0, .slice none 0 0] 59)
  rw [← hX7] at g5
  have g5 := g5.alloc (.cells #[.string ⟨#[117]⟩, .string ⟨#[121]⟩, .slice none 0 0, .slice none 0 0, .string ⟨#[119]⟩, .string ⟨#[120]⟩, .slice none 0 0, .slice none 0 0] 59)
  rw [← hX8] at g5
  have g5 := g5.alloc (.cells #[.slice none 0 0, .slice (some ⟨w.heap.size + 1 + 1 + 1 + 1 + 1, 0, none⟩) 1 1, .slice (some ⟨w.heap.size + 1 + 1 + 1 + 1 + 1 + 1 + 1 + 1, 0, none⟩) 2 2] 26)
  rw [← hX9] at g5
  have g8 : Blk X8 (w.heap.size + 1 + 1 + 1 + 1 + 1 + 1 + 1 + 1) 59 #[.string ⟨#[117]⟩, .string ⟨#[121]⟩, .slice none 0 0, .slice none 0 0, .string ⟨#[119]⟩, .string ⟨#[120]⟩, .slice none 0 0, .slice none 0 0] := by
    have := Blk.new X7 59 #[.string ⟨#[117]⟩, .string ⟨#[121]⟩, .slice none 0 0, .slice none 0 0, .string ⟨#[119]⟩, .string ⟨#[120]⟩, .slice none 0 0, .slice none 0 0]
    rw [← hX8, z7] at this
    exact this
  have g8 := g8.alloc (.cells #[.slice none 0 0, .slice (some ⟨w.heap.size + 1 + 1 + 1 + 1 + 1, 0, none⟩) 1 1, .slice (some ⟨w.heap.size + 1 + 1 + 1 + 1 + 1 + 1 + 1 + 1, 0, none⟩) 2 2] 26)
  rw [← hX9] at g8
  have g9 : Blk X9 (w.heap.size + 1 + 1 + 1 + 1 + 1 + 1 + 1 + 1 + 1) 26 #[.slice none 0 0, .slice (some ⟨w.heap.size + 1 + 1 + 1 + 1 + 1, 0, none⟩) 1 1, .slice (some ⟨w.heap.size + 1 + 1 + 1 + 1 + 1 + 1 + 1 + 1, 0, none⟩) 2 2] := by
    have := Blk.new X8 26 #[.slice none 0 0, .slice (some ⟨w.heap.size + 1 + 1 + 1 + 1 + 1, 0, none⟩) 1 1, .slice (some ⟨w.heap.size + 1 + 1 + 1 + 1 + 1 + 1 + 1 + 1, 0, none⟩) 2 2]
    rw [← hX9, z8] at this
    exact this
  exact ⟨X9, by rw [hX9, hX8, hX7, hX6, hX5, hX4, hX3, hX2, hX1, hX0], b9, z9, g0, g3, g5, g8, g9⟩
set_option maxRecDepth 100000 in
set_option maxHeartbeats 4000000 in
theorem shown21_any (w : World) : Calls Tryz.prog 10 #[] w fun e w' => e = .returned (.bool true) ∧ Below w.heap.size w w' := by
  have hu := fun (a b : ByteArray) (W : World) => unitL_any a b W
  obtain ⟨W, hW, hb, hz, g0, g3, g5, g8, g9⟩ := sh_world w
  have ho : ObsAt W W.heap.size (nowS (w.heap.size) (w.heap.size + 1 + 1 + 1)) := obs_s (a := ([117], [121])) (b := ([118], [122])) g0 g3 (by omega) (by omega)
  have hs : ObsAt W W.heap.size (sysS (w.heap.size + 1 + 1 + 1 + 1 + 1) (w.heap.size + 1 + 1 + 1 + 1 + 1 + 1 + 1 + 1)) := obs_s (a := ([117], [121])) (b := ([119], [120])) g5 g8 (by omega) (by omega)
  have hsm : SmallO (sysS (w.heap.size + 1 + 1 + 1 + 1 + 1) (w.heap.size + 1 + 1 + 1 + 1 + 1 + 1 + 1 + 1)) := small_s _ _ _ _ (by decide) (fun u hu => by
    rcases List.mem_cons.1 hu with rfl | hu
    · exact small_su _ _ (by decide) (by decide)
    · rw [List.mem_singleton.1 hu]; exact small_su _ _ (by decide) (by decide))
  have hac := acts21_any ho hs (Nat.le_refl _) hsm ⟨by show 0 ≤ 1048576; omega, by show 1 ≤ 1048576; omega, by show 2 ≤ 1048576; omega⟩
  have HSY := Lib.hid hs
  have HSM := Lib.hid hsm
  have HB := Lib.hid hb
  have HG9 := Lib.hid g9
  have HW := Lib.hid hW
  rw [hW] at hac
  unfold nowS sysS ovS ovArr at hac
  simp only at hac
  clear hW hb hz g0 g3 g5 g8 g9 ho hs hsm
  go_enter Tryz.func10, Tryz.ntmps10
  go_wp2_with (first
    | (go_at_call 35; refine (hu _ _ _).mono ?_; rintro e2 w2 ⟨rfl, rfl⟩)
    | (go_at_call 28; refine hac.mono ?_; clear hac; rintro e3 w3 ⟨A3, n3, c3, l, rfl, hl, ho3⟩; rw [← HW.out] at ho3; have hg9 := HG9.out.below ho3.bel HG9.out.lt; have y0 := hg9.cell 0; have y1 := hg9.cell 1; have y2 := hg9.cell 2; simp only [List.getElem?_toArray, List.getElem?_cons_zero, List.getElem?_cons_succ] at y0 y1 y2; have hent := Entries21_right (HSY.out.below ho3.bel) ho3.bel.size HSM.out shown_right; obtain ⟨hn3, hsi, htx⟩ := shown_simple ho3.at_ (hl.trans shown_acts); have HSI := Lib.hid hsi; have HTX := Lib.hid htx; have HN3 := Lib.hid hn3; have HAT := Lib.hid ho3.at_; have HB3 := Lib.hid (HB.out.trans (ho3.bel.mono HB.out.size)); unfold sysS ovS ovArr at hent; simp only at hent; clear hl ho3 hg9 hsi htx hn3)
    | (go_at_call 13; refine hent.mono ?_; clear hent; rintro e4 w4 ⟨A4, n4, c4, es, fs, x, rfl, -, hes, hla, -, hb4⟩; obtain ⟨rfl, b0, off, x0, rfl, hb0, c0, c2, hS⟩ := shown_laid hla hes; have htt := textS_any (HAT.out.below hb4) hb4.size (by rw [HN3.out]; decide) HSI.out; have HFC := Lib.hid (fun (W : World) (hW : Below w.heap.size w4 W) (hW2 : Below w4.heap.size w4 W) => show W.cell? ⟨b0, off, none⟩ = some (.string ⟨#[115, 121, 115, 116, 101, 109]⟩) ∧ W.cell? ⟨b0, off + 2, none⟩ = some (.slice x0.A x0.n x0.c) ∧ Slc W w4.heap.size 1 x0.A x0.n x0.c _ from ⟨(hW2.cell (p := ⟨b0, off, none⟩) hb0).trans c0, (hW2.cell (p := ⟨b0, off + 2, none⟩) hb0).trans c2, hS.below hW2⟩); have HB4 := Lib.hid (HB3.out.trans (hb4.mono HB3.out.size)); clear hes hla hb4 hb0 c0 c2 hS)
    | (go_at_call 31; refine htt.mono ?_; clear htt; rintro e5 w5 ⟨b5, rfl, hb5, hbe⟩; obtain rfl : b5 = ⟨#[115, 116, 111, 112, 32, 118, 10, 100, 114, 111, 112, 32, 97, 10, 117, 115, 101, 114, 32, 98, 10, 115, 116, 97, 114, 116, 32, 119, 10, 114, 117, 110, 32, 120, 10, 101, 110, 100, 10]⟩ := bytes_inj (hb5.trans HTX.out); obtain ⟨c0, c2, hS⟩ := HFC.out w5 (hbe.mono HB4.out.size) hbe; have kc := convert_bytes (P := Tryz.prog) (src := 33) Tryz.underlying33 Tryz.underlying5 hS 9 Tryz.underlying9; have HB5 := Lib.hid (HB4.out.trans (hbe.mono HB4.out.size)); clear hb5 hbe hS))
  go_ret
  exact ⟨rfl, HB5.out⟩
end Go.Proofs.YtibndaianhlcaaaGreatDoor
namespace Go.Proofs.YtibndaianhlcaaaGreatDoor
open Go.RowKit Go.Sort Go.Shelf
open Go.WideShapes (bytes_inj)
set_option linter.unusedVariables false
set_option linter.unusedSimpArgs false

theorem ParsePost.at_none {w : World} {text : Txt} {e : Ending} {w' : World} (h : ParsePost w text e w') (hp : parseP numI decI text = none) : e = .returned (.tuple #[.slice none 0 0, .int .i64 70]) ∧ Below w.heap.size w w' := by
  obtain ⟨hb, ⟨_, he⟩ | ⟨A, n, c, l, _, h9, _⟩⟩ := h
  · exact ⟨he, hb⟩
  · rw [hp] at h9; cases h9
theorem ParsePost.at_some {w : World} {text : Txt} {e : Ending} {w' : World} {L : List ActP} (h : ParsePost w text e w') (hp : parseP numI decI text = some L) : ∃ A n c l, e = .returned (.tuple #[.slice A n c, .int .i64 0]) ∧ l.map AV.act = L ∧ ActsAt w' w'.heap.size A n c l ∧ (∀ a ∈ l, SmallQ a) ∧ Below w.heap.size w w' := by
  obtain ⟨hb, ⟨h9, _⟩ | ⟨A, n, c, l, he, h9, h1, h2⟩⟩ := h
  · rw [hp] at h9; cases h9
  · rw [hp] at h9
    injection h9 with h9
    exact ⟨A, n, c, l, he, h9.symm, h1, h2, hb⟩
theorem RefTextPost.at_some {w : World} {l : List AV} {e : Ending} {w' : World} {t : Txt} (h : RefTextPost w l e w') (ht : textA decI (l.map AV.act) = some t) : e = .returned (.tuple #[.string ⟨t.toArray⟩, .bool true]) ∧ Below w.heap.size w w' := by
  obtain ⟨b, he, hb, hbl⟩ := h
  rw [ht] at he hb
  have e1 : b = ⟨t.toArray⟩ := bytes_inj (by rw [hb]; rfl)
  subst e1
  exact ⟨he, hbl⟩
theorem RefTextPost.at_none {w : World} {l : List AV} {e : Ending} {w' : World} (h : RefTextPost w l e w') (ht : textA decI (l.map AV.act) = none) : e = .returned (.tuple #[.string ⟨#[]⟩, .bool false]) ∧ Below w.heap.size w w' := by
  obtain ⟨b, he, hb, hbl⟩ := h
  rw [ht] at he hb
  have e1 : b = ⟨#[]⟩ := bytes_inj (by rw [hb]; rfl)
  subst e1
  exact ⟨he, hbl⟩
set_option maxRecDepth 100000 in
set_option maxHeartbeats 4000000 in
theorem parses21_any {w : World} {text : Txt} (hT : text.length ≤ 60000000) (hm : MaxOk w) (ha : AtoiOk w) (ht : TabOk w) :
    Calls Tryz.prog 9 #[.string ⟨text.toArray⟩] w fun e w' => e = .returned (.bool true) ∧ Below w.heap.size w w' := by
  have hsh := shown21_any w
  have HP := Lib.hid (fun (W : World) (hW : Below w.heap.size w W) => parse21_any (w := W) hT (hm.below hW) (ha.below hW) (ht.below hW))
  have tt : (ByteArray.mk text.toArray).toList = text := Go.ByteArray.toList_eq _
  clear hm ha ht
  cases hp : parseP numI decI text with
  | none =>
    have HN := Lib.hid hp
    clear hp
    go_enter Tryz.func9, Tryz.ntmps9
    go_wp2_with (first
      | (go_at_call 10; refine hsh.mono ?_; clear hsh; rintro e w1 ⟨rfl, hb1⟩; have hpp := HP.out w1 hb1; have HB1 := Lib.hid hb1; clear hb1)
      | (go_at_call 33; refine hpp.mono ?_; clear hpp; intro e w2 h2; obtain ⟨rfl, hb2⟩ := h2.at_none HN.out; have HB2 := Lib.hid (HB1.out.trans (hb2.mono HB1.out.size)); clear h2 hb2))
    go_ret
    exact ⟨rfl, HB2.out⟩
  | some L =>
    have HS := Lib.hid hp
    have HTX := Lib.hid (parse_text hp)
    have htt : (text == text) = true := by simp
    clear hp
    go_enter Tryz.func9, Tryz.ntmps9
    go_wp2_with (first
      | (go_at_call 10; refine hsh.mono ?_; clear hsh; rintro e w1 ⟨rfl, hb1⟩; have hpp := HP.out w1 hb1; have HB1 := Lib.hid hb1; clear hb1)
      | (go_at_call 33; refine hpp.mono ?_; clear hpp; intro e w2 h2; obtain ⟨A, n, c, l, rfl, hl, hat, hsm, hb2⟩ := h2.at_some HS.out; have htx := refText21_any hat (Nat.le_refl _) hsm; have HLM := Lib.hid hl; have HB2 := Lib.hid (HB1.out.trans (hb2.mono HB1.out.size)); clear h2 hb2 hl hat hsm)
      | (go_at_call 32; refine htx.mono ?_; clear htx; intro e w3 h3; obtain ⟨rfl, hb3⟩ := h3.at_some (t := text) (by rw [HLM.out]; exact HTX.out); have HB3 := Lib.hid (HB2.out.trans (hb3.mono HB2.out.size)); clear h3 hb3))
    go_ret
    exact ⟨rfl, HB3.out⟩
end Go.Proofs.YtibndaianhlcaaaGreatDoor
