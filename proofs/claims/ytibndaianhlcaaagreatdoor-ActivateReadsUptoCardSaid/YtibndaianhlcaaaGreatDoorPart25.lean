/- activate.Entries; the document's examples (bootjacklaw21.shown). Units that are put together line by line, in memory of the call's own. -/
import Derived.Test.YtibndaianhlcaaaGreatDoorPart22
import Derived.Test.YtibndaianhlcaaaGreatDoorPart24
import Derived.Test.YtibndaianhlcaaaGreatDoorPart11
import Derived.Test.YtibndaianhlcaaaGreatDoorPart23
import Derived.Test.YtibndaianhlcaaaGreatDoorPart8
namespace Go.Proofs.YtibndaianhlcaaaGreatDoor
open Go.RowKit Go.Sort Go.Shelf
open Go.WideShapes (bytes_inj)
set_option linter.unusedVariables false
set_option linter.unusedSimpArgs false

def NoEnts (w : World) : Ending → World → Prop := fun e w' => e = .returned (.slice none 0 0) ∧ Below w.heap.size w w'
set_option maxRecDepth 100000 in
set_option maxHeartbeats 1000000 in
theorem Entries21_any {w : World} {B : Nat} {o : OV} (h : ObsAt w B o) (hB : B ≤ w.heap.size) (hs : SmallO o) :
    Calls Tryz.prog 13 #[.agg (ovArr o)] w fun e w' => if rightS (sysO o) = true then LaidPost w o e w' else NoEnts w e w' := by
  obtain ⟨W0, hW0⟩ : ∃ W0, W0 = w.alloc (.cells (ovArr o) 26) := ⟨_, rfl⟩
  have hb0 : Below w.heap.size w W0 := by rw [hW0]; exact bel_new _ _
  have hG0 : Blk W0 w.heap.size 26 (ovArr o) := by rw [hW0]; exact Blk.new _ _ _
  have hr := right21_any (h.below (hb0.mono hB)) (Nat.le_trans hB hb0.size) hs
  have HENT := Lib.hid (fun (W : World) (hb : Below w.heap.size w W) (hr : rightS (sysO o) = true) => entries21_any (h.below (hb.mono hB)) (Nat.le_trans hB hb.size) hs (by have h9 := (right_parts hr).2.1; have := h.users.len; simp at this; rw [← this]; exact h9) (by have h9 := (right_parts hr).2.2.1; have := h.units.len; rw [← this]; simpa [sysO] using h9))
  have HK := Lib.hid (fun (W : World) (hW : Below W0.heap.size W0 W) => hG0.below hW hG0.lt)
  have HB0 := Lib.hid hb0
  rw [hW0] at hr
  obtain ⟨A, n, c, es, A2, n2, c2, users, A3, n3, c3, us⟩ := o
  unfold ovArr at hr HK HENT hW0 ⊢
  simp only at hr HK HENT hW0 ⊢
  have HW0 := Lib.hid hW0
  clear hb0 hG0 hW0 h
  cases hrt : rightS (sysO ⟨A, n, c, es, A2, n2, c2, users, A3, n3, c3, us⟩) with
  | false =>
    rw [hrt] at hr
    simp only [Bool.false_eq_true, if_false]
    clear hrt HENT
    go_enter Tryz.func13, Tryz.ntmps13
    go_wp2_with (go_at_call 15; refine hr.mono ?_; clear hr; rintro e2 w2 ⟨rfl, hb2⟩; rw [← HW0.out] at hb2)
    go_ret
    exact ⟨rfl, HB0.out.trans (hb2.mono HB0.out.size)⟩
  | true =>
    have HR := Lib.hid hrt
    rw [hrt] at hr
    simp only [if_true]
    clear hrt
    go_enter Tryz.func13, Tryz.ntmps13
    go_wp2_with (first
      | (go_at_call 15; refine hr.mono ?_; clear hr; rintro e2 w2 ⟨rfl, hb2⟩; rw [← HW0.out] at hb2; have hG2 := HK.out w2 hb2; have y0 := hG2.cell 0; have y1 := hG2.cell 1; have y2 := hG2.cell 2; simp only [List.getElem?_toArray, List.getElem?_cons_zero, List.getElem?_cons_succ] at y0 y1 y2; have HB2 := Lib.hid (HB0.out.trans (hb2.mono HB0.out.size)); have hent := HENT.out w2 HB2.out HR.out; clear hb2 hG2)
      | (go_at_call 37; refine hent.mono ?_; clear hent; rintro e4 w4 ⟨A', n', c', es', fs, x, rfl, h1, h2, h3, h4, hb4⟩; have HP := Lib.hid (And.intro h1 (And.intro h2 (And.intro h3 (And.intro h4 hb4)))); clear h1 h2 h3 h4 hb4))
    go_ret
    obtain ⟨h1, h2, h3, h4, h5⟩ := HP.out
    have hz := HB2.out.size
    refine ⟨A', n', c', es', fs, x, rfl, h1, h2, ⟨h3.ents, fun a ha => ?_, fun e he => ?_⟩, h4, HB2.out.trans (h5.mono hz)⟩
    · have := h3.row a ha; omega
    · obtain ⟨g, d1, d2, d3⟩ := h3.data e he
      exact ⟨g, d1, by omega, d3⟩
theorem Entries21_right {w : World} {B : Nat} {o : OV} (h : ObsAt w B o) (hB : B ≤ w.heap.size) (hs : SmallO o) (hr : rightS (sysO o) = true) : Calls Tryz.prog 13 #[.agg (ovArr o)] w (LaidPost w o) :=
  (Entries21_any h hB hs).mono fun e w' h9 => by rwa [if_pos hr] at h9
theorem Entries21_none {w : World} {B : Nat} {o : OV} (h : ObsAt w B o) (hB : B ≤ w.heap.size) (hs : SmallO o) (hr : rightS (sysO o) = false) : Calls Tryz.prog 13 #[.agg (ovArr o)] w (NoEnts w) :=
  (Entries21_any h hB hs).mono fun e w' h9 => by rwa [if_neg (by rw [hr]; decide)] at h9
set_option maxRecDepth 100000 in
theorem unitL_any (a b : ByteArray) (w : World) : Calls Tryz.prog 35 #[.string a, .string b] w fun e w' => e = .returned (.agg #[.string a, .string b, .slice none 0 0, .slice none 0 0]) ∧ w' = w.alloc (.cells #[.string a, .string b, .slice none 0 0, .slice none 0 0] 59) := by
  have HR := Blk.new w 59 #[.string a, .string b, .slice none 0 0, .slice none 0 0]
  go_enter Tryz.func35, Tryz.ntmps35
  go_wp2_with (fail)
  exact bodyPost_ret (results_aggr (t := 4) (g := w.heap.size) rfl rfl Tryz.isAgg59 Tryz.sizeOf59 rfl HR) rfl ⟨rfl, rfl⟩
def su21 (n s : Txt) : SV := ⟨n, s, [], none, 0, 0, [], none, 0, 0⟩
def uc21 (n s : Txt) : List Value := [.string ⟨n.toArray⟩, .string ⟨s.toArray⟩, .slice none 0 0, .slice none 0 0]
/-- What the examples keep in memory. -/
def ovS (s g : Nat) (n : Txt) (us : List SV) : OV := ⟨none, 0, 0, [], some ⟨s, 0, none⟩, 1, 1, [n], some ⟨g, 0, none⟩, 2, 2, us⟩
theorem obs_s {W : World} {B s g : Nat} {n : Txt} {a b : Txt × Txt} (h1 : Blk W s 9 #[.string ⟨n.toArray⟩]) (h2 : Blk W g 59 (uc21 a.1 a.2 ++ uc21 b.1 b.2).toArray) (hs : s < B) (hg : g < B) : ObsAt W B (ovS s g n [su21 a.1 a.2, su21 b.1 b.2]) := by
  refine ⟨⟨slc_none _ _ _, rfl, fun e he => by cases he⟩, ?_, ⟨?_, rfl, fun u hu => ?_, fun u hu => ?_⟩⟩
  · exact (h1.slc (sz := 1) (n := 1) (c := 1) (Nat.le_refl _) (Nat.le_refl _) (by decide)).more hs
  · exact (h2.slc (sz := 4) (n := 2) (c := 2) (Nat.le_refl _) (Nat.le_refl _) (by decide)).more hg
  · rcases List.mem_cons.1 hu with rfl | hu
    · exact slc_none _ _ _
    · rw [List.mem_singleton.1 hu]; exact slc_none _ _ _
  · rcases List.mem_cons.1 hu with rfl | hu
    · exact slc_none _ _ _
    · rw [List.mem_singleton.1 hu]; exact slc_none _ _ _
def nowS (s g : Nat) : OV := ovS s g [97] [su21 [117] [121], su21 [118] [122]]
def sysS (s g : Nat) : OV := ovS s g [98] [su21 [117] [121], su21 [119] [120]]
def pNow : SysP := ⟨[], [[97]], [⟨[117], [121], [], []⟩, ⟨[118], [122], [], []⟩]⟩
def pSys : SysP := ⟨[], [[98]], [⟨[117], [121], [], []⟩, ⟨[119], [120], [], []⟩]⟩
theorem shown_right : rightS pSys = true := by decide +kernel
theorem shown_acts : actsR pNow pSys = [⟨1, [118], ent0, srv0⟩, ⟨3, [97], ent0, srv0⟩, ⟨5, [98], ent0, srv0⟩, ⟨6, [119], ent0, ⟨[119], [120], [], []⟩⟩] := by
  unfold actsR
  rw [if_pos shown_right]
  rfl
theorem small_s (s g : Nat) (n : Txt) (us : List SV) (hn : n.length ≤ 10) (hu : ∀ u ∈ us, SmallU u) : SmallO (ovS s g n us) :=
  ⟨(fun e he => by cases he), (fun t ht => by rw [List.mem_singleton.1 ht]; omega), hu, by show 0 ≤ 1048576; omega, by show 1 ≤ 1048576; omega, by show 2 ≤ 1048576; omega⟩
theorem small_su (n s : Txt) (hn : n.length ≤ 10) (hs : s.length ≤ 10) : SmallU (su21 n s) := ⟨by show n.length ≤ _; omega, by show s.length ≤ _; omega, (fun t ht => by cases ht), by show 0 ≤ 1048576; omega, by show 0 ≤ 1048576; omega⟩
theorem simple_plain {w : World} {B : Nat} {a : AV} (h : ActAt w B a) {kind : Int} {name : Txt} (ha : a.act = ⟨kind, name, ent0, srv0⟩) (hk : kind = 1 ∨ kind = 3 ∨ kind = 5) (hn : nameB name = true) (hl : name.length ≤ 1048576) : SimpleA a := by
  obtain ⟨k, nm, ⟨fp, fk, fd, fA, fn, fc⟩, ⟨un, us, ur, uA, u1, uc, ua, uB, u2, ud⟩⟩ := a
  obtain ⟨h1, h2, h3⟩ := h
  simp only [AV.act, EV.ent, SV.srv, ent0, srv0, ActP.mk.injEq, Ent.mk.injEq, Srv.mk.injEq] at ha
  obtain ⟨rfl, rfl, ⟨rfl, rfl, rfl⟩, rfl, rfl, rfl, rfl⟩ := ha
  have e1 : fn = 0 := by have := h1.len; simpa using this.symm
  have e2 : u1 = 0 := by have := h2.len; simpa using this.symm
  have e3 : u2 = 0 := by have := h3.len; simpa using this.symm
  subst e1 e2 e3
  exact SimpleA.plain _ _ _ _ _ _ _ _ hk hn hl
theorem simple_unit {w : World} {B : Nat} {a : AV} (h : ActAt w B a) {name st : Txt} (ha : a.act = ⟨6, name, ent0, ⟨name, st, [], []⟩⟩) (hm : mayU ⟨name, st, [], []⟩ = true) (hn : name.length ≤ 100) (hs : st.length ≤ 100) : SimpleA a := by
  obtain ⟨k, nm, ⟨fp, fk, fd, fA, fn, fc⟩, ⟨un, us, ur, uA, u1, uc, ua, uB, u2, ud⟩⟩ := a
  obtain ⟨h1, h2, h3⟩ := h
  simp only [AV.act, EV.ent, SV.srv, ent0, ActP.mk.injEq, Ent.mk.injEq, Srv.mk.injEq] at ha
  obtain ⟨rfl, rfl, ⟨rfl, rfl, rfl⟩, rfl, rfl, rfl, rfl⟩ := ha
  have e1 : fn = 0 := by have := h1.len; simpa using this.symm
  have e2 : u1 = 0 := by have := h2.len; simpa using this.symm
  have e3 : u2 = 0 := by have := h3.len; simpa using this.symm
  subst e1 e2 e3
  exact SimpleA.unit ⟨un, us, [], uA, 0, uc, [], uB, 0, ud⟩ fA fc hm ⟨by show un.length ≤ _; omega, by show us.length ≤ _; omega, (fun t ht => by cases ht), by show 0 ≤ 1048576; omega, by show 0 ≤ 1048576; omega⟩ (by simp [linesU, SV.srv]; omega)
def scriptP (l : List ActP) : Txt := l.flatMap fun x => headA noDec x ++ 10 :: bodyA x
theorem script_acts (l : List AV) : scriptT l = scriptP (l.map AV.act) := by
  unfold scriptT scriptP
  rw [List.flatMap_map]
  rfl
theorem shown_simple {w : World} {B : Nat} {A : Option Addr} {n c : Nat} {l : List AV} (h : ActsAt w B A n c l) (hl : l.map AV.act = [⟨1, [118], ent0, srv0⟩, ⟨3, [97], ent0, srv0⟩, ⟨5, [98], ent0, srv0⟩, ⟨6, [119], ent0, ⟨[119], [120], [], []⟩⟩]) : n = 4 ∧ (∀ a ∈ l, SimpleA a) ∧ scriptT l ++ wEnd = [115, 116, 111, 112, 32, 118, 10, 100, 114, 111, 112, 32, 97, 10, 117, 115, 101, 114, 32, 98, 10, 115, 116, 97, 114, 116, 32, 119, 10, 114, 117, 110, 32, 120, 10, 101, 110, 100, 10] := by
  refine ⟨?_, fun a ha => ?_, ?_⟩
  · have h1 := h.len
    have h2 := congrArg List.length hl
    rw [List.length_map] at h2
    rw [← h1, h2]
    rfl
  · have hm : a.act ∈ l.map AV.act := List.mem_map.2 ⟨a, ha, rfl⟩
    rw [hl] at hm
    have hat := h.acts a ha
    rcases List.mem_cons.1 hm with e | hm
    · exact simple_plain hat e (.inl rfl) (by decide) (by decide)
    rcases List.mem_cons.1 hm with e | hm
    · exact simple_plain hat e (.inr (.inl rfl)) (by decide) (by decide)
    rcases List.mem_cons.1 hm with e | hm
    · exact simple_plain hat e (.inr (.inr rfl)) (by decide) (by decide)
    · exact simple_unit hat (List.mem_singleton.1 hm) (by decide) (by decide) (by decide)
  · rw [script_acts, hl]
    rfl
theorem shown_laid {w : World} {A : Option Addr} {n c : Nat} {es : List EV} {base : Nat} (h : LaidAt w base A n c es) (he : es.map EV.ent = laidS pSys) : n = 1 ∧ ∃ (b off : Nat) (x : EV), A = some ⟨b, off, none⟩ ∧ b < w.heap.size ∧ w.cell? ⟨b, off, none⟩ = some (.string ⟨#[115, 121, 115, 116, 101, 109]⟩) ∧ w.cell? ⟨b, off + 2, none⟩ = some (.slice x.A x.n x.c) ∧ Slc w w.heap.size 1 x.A x.n x.c (([117, 115, 101, 114, 32, 98, 10, 117, 110, 105, 116, 32, 117, 10, 114, 117, 110, 32, 121, 10, 117, 110, 105, 116, 32, 119, 10, 114, 117, 110, 32, 120, 10, 101, 110, 100, 10] : Txt).map bv) := by
  have h1 := h.ents.len
  have h2 := congrArg List.length he
  rw [List.length_map] at h2
  have hn : n = 1 := by rw [← h1, h2]; rfl
  subst hn
  obtain ⟨b, off, e, hb, hl, c0, c1, c2, hS⟩ := h.ents.at_ (k := 0) (by omega)
  have hx : es[0].ent = ⟨[115, 121, 115, 116, 101, 109], 1, textS pSys⟩ := by
    have : (es.map EV.ent)[0]? = some ⟨[115, 121, 115, 116, 101, 109], 1, textS pSys⟩ := by rw [he]; rfl
    rw [List.getElem?_map, List.getElem?_eq_getElem hl] at this
    exact Option.some.inj this
  have hp : es[0].path = [115, 121, 115, 116, 101, 109] := congrArg Ent.path hx
  have hd : es[0].data = textS pSys := congrArg Ent.data hx
  rw [hp] at c0
  rw [hd] at hS
  exact ⟨rfl, b, off, es[0], e, hb, by simpa using c0, by simpa using c2, hS⟩
set_option maxRecDepth 100000 in
theorem sh_world (w : World) : ∃ W, W = ((((((((((w.alloc (.cells #[.string ⟨#[97]⟩] 9)).alloc (.cells #[.string ⟨#[117]⟩, .string ⟨#[121]⟩, .slice none 0 0, .slice none 0 0] 59)).alloc (.cells #[.string ⟨#[118]⟩, .string ⟨#[122]⟩, .slice none 0 0, .slice none 0 0] 59)).alloc (.cells #[.string ⟨#[117]⟩, .string ⟨#[121]⟩, .slice none 0 0, .slice none 0 0, .string ⟨#[118]⟩, .string ⟨#[122]⟩, .slice none 0 0, .slice none 0 0] 59)).alloc (.cells #[.slice none 0 0, .slice (some ⟨w.heap.size, 0, none⟩) 1 1, .slice (some ⟨w.heap.size + 1 + 1 + 1, 0, none⟩) 2 2] 28)).alloc (.cells #[.string ⟨#[98]⟩] 9)).alloc (.cells #[.string ⟨#[117]⟩, .string ⟨#[121]⟩, .slice none 0 0, .slice none 0 0] 59)).alloc (.cells #[.string ⟨#[119]⟩, .string ⟨#[120]⟩, .slice none 0 0, .slice none 0 0] 59)).alloc (.cells #[.string ⟨#[117]⟩, .string ⟨#[121]⟩, .slice none 0 0, .slice none 0 0, .string ⟨#[119]⟩, .string ⟨#[120]⟩, .slice none 0 0, .slice none 0 0] 59)).alloc (.cells #[.slice none 0 0, .slice (some ⟨w.heap.size + 1 + 1 + 1 + 1 + 1, 0, none⟩) 1 1, .slice (some ⟨w.heap.size + 1 + 1 + 1 + 1 + 1 + 1 + 1 + 1, 0, none⟩) 2 2] 26)) ∧ Below w.heap.size w W ∧ W.heap.size = w.heap.size + 1 + 1 + 1 + 1 + 1 + 1 + 1 + 1 + 1 + 1 ∧
    Blk W w.heap.size 9 #[.string ⟨#[97]⟩] ∧ Blk W (w.heap.size + 1 + 1 + 1) 59 #[.string ⟨#[117]⟩, .string ⟨#[121]⟩, .slice none 0 0, .slice none 0 0, .string ⟨#[118]⟩, .string ⟨#[122]⟩, .slice none 0 0, .slice none 0 0] ∧ Blk W (w.heap.size + 1 + 1 + 1 + 1 + 1) 9 #[.string ⟨#[98]⟩] ∧ Blk W (w.heap.size + 1 + 1 + 1 + 1 + 1 + 1 + 1 + 1) 59 #[.string ⟨#[117]⟩, .string ⟨#[121]⟩, .slice none 0 0, .slice none 0 0, .string ⟨#[119]⟩, .string ⟨#[120]⟩, .slice none 0 0, .slice none 0 0] ∧ Blk W (w.heap.size + 1 + 1 + 1 + 1 + 1 + 1 + 1 + 1 + 1) 26 #[.slice none 0 0, .slice (some ⟨w.heap.size + 1 + 1 + 1 + 1 + 1, 0, none⟩) 1 1, .slice (some ⟨w.heap.size + 1 + 1 + 1 + 1 + 1 + 1 + 1 + 1, 0, none⟩) 2 2] := by
  obtain ⟨X0, hX0⟩ : ∃ X, X = w.alloc (.cells #[.string ⟨#[97]⟩] 9) := ⟨_, rfl⟩
  have z0 : X0.heap.size = w.heap.size + 1 := by rw [hX0, World.size_alloc]
  have b0 : Below w.heap.size w X0 := by rw [hX0]; exact (Below.refl _ w).alloc (Nat.le_refl _) _
  obtain ⟨X1, hX1⟩ : ∃ X, X = X0.alloc (.cells #[.string ⟨#[117]⟩, .string ⟨#[121]⟩, .slice none 0 0, .slice none 0 0] 59) := ⟨_, rfl⟩
  have z1 : X1.heap.size = w.heap.size + 1 + 1 := by rw [hX1, World.size_alloc, z0]
  have b1 : Below w.heap.size w X1 := by rw [hX1]; exact (b0).alloc (b0.size) _
  obtain ⟨X2, hX2⟩ : ∃ X, X = X1.alloc (.cells #[.string ⟨#[118]⟩, .string ⟨#[122]⟩, .slice none 0 0, .slice none 0 0] 59) := ⟨_, rfl⟩
  have z2 : X2.heap.size = w.heap.size + 1 + 1 + 1 := by rw [hX2, World.size_alloc, z1]
  have b2 : Below w.heap.size w X2 := by rw [hX2]; exact (b1).alloc (b1.size) _
  obtain ⟨X3, hX3⟩ : ∃ X, X = X2.alloc (.cells #[.string ⟨#[117]⟩, .string ⟨#[121]⟩, .slice none 0 0, .slice none 0 0, .string ⟨#[118]⟩, .string ⟨#[122]⟩, .slice none 0 0, .slice none 0 0] 59) := ⟨_, rfl⟩
  have z3 : X3.heap.size = w.heap.size + 1 + 1 + 1 + 1 := by rw [hX3, World.size_alloc, z2]
  have b3 : Below w.heap.size w X3 := by rw [hX3]; exact (b2).alloc (b2.size) _
  obtain ⟨X4, hX4⟩ : ∃ X, X = X3.alloc (.cells #[.slice none 0 0, .slice (some ⟨w.heap.size, 0, none⟩) 1 1, .slice (some ⟨w.heap.size + 1 + 1 + 1, 0, none⟩) 2 2] 28) := ⟨_, rfl⟩
  have z4 : X4.heap.size = w.heap.size + 1 + 1 + 1 + 1 + 1 := by rw [hX4, World.size_alloc, z3]
  have b4 : Below w.heap.size w X4 := by rw [hX4]; exact (b3).alloc (b3.size) _
  obtain ⟨X5, hX5⟩ : ∃ X, X = X4.alloc (.cells #[.string ⟨#[98]⟩] 9) := ⟨_, rfl⟩
  have z5 : X5.heap.size = w.heap.size + 1 + 1 + 1 + 1 + 1 + 1 := by rw [hX5, World.size_alloc, z4]
  have b5 : Below w.heap.size w X5 := by rw [hX5]; exact (b4).alloc (b4.size) _
  obtain ⟨X6, hX6⟩ : ∃ X, X = X5.alloc (.cells #[.string ⟨#[117]⟩, .string ⟨#[121]⟩, .slice none 0 0, .slice none 0 0] 59) := ⟨_, rfl⟩
  have z6 : X6.heap.size = w.heap.size + 1 + 1 + 1 + 1 + 1 + 1 + 1 := by rw [hX6, World.size_alloc, z5]
  have b6 : Below w.heap.size w X6 := by rw [hX6]; exact (b5).alloc (b5.size) _
  obtain ⟨X7, hX7⟩ : ∃ X, X = X6.alloc (.cells #[.string ⟨#[119]⟩, .string ⟨#[120]⟩, .slice none 0 0, .slice none 0 0] 59) := ⟨_, rfl⟩
  have z7 : X7.heap.size = w.heap.size + 1 + 1 + 1 + 1 + 1 + 1 + 1 + 1 := by rw [hX7, World.size_alloc, z6]
  have b7 : Below w.heap.size w X7 := by rw [hX7]; exact (b6).alloc (b6.size) _
  obtain ⟨X8, hX8⟩ : ∃ X, X = X7.alloc (.cells #[.string ⟨#[117]⟩, .string ⟨#[121]⟩, .slice none 0 0, .slice none 0 0, .string ⟨#[119]⟩, .string ⟨#[120]⟩, .slice none 0 0, .slice none 0 0] 59) := ⟨_, rfl⟩
  have z8 : X8.heap.size = w.heap.size + 1 + 1 + 1 + 1 + 1 + 1 + 1 + 1 + 1 := by rw [hX8, World.size_alloc, z7]
  have b8 : Below w.heap.size w X8 := by rw [hX8]; exact (b7).alloc (b7.size) _
  obtain ⟨X9, hX9⟩ : ∃ X, X = X8.alloc (.cells #[.slice none 0 0, .slice (some ⟨w.heap.size + 1 + 1 + 1 + 1 + 1, 0, none⟩) 1 1, .slice (some ⟨w.heap.size + 1 + 1 + 1 + 1 + 1 + 1 + 1 + 1, 0, none⟩) 2 2] 26) := ⟨_, rfl⟩
  have z9 : X9.heap.size = w.heap.size + 1 + 1 + 1 + 1 + 1 + 1 + 1 + 1 + 1 + 1 := by rw [hX9, World.size_alloc, z8]
  have b9 : Below w.heap.size w X9 := by rw [hX9]; exact (b8).alloc (b8.size) _
  have g0 : Blk X0 (w.heap.size) 9 #[.string ⟨#[97]⟩] := by
    have := Blk.new w 9 #[.string ⟨#[97]⟩]
    rw [← hX0] at this
    exact this
  have g0 := g0.alloc (.cells #[.string ⟨#[117]⟩, .string ⟨#[121]⟩, .slice none 0 0, .slice none 0 0] 59)
  rw [← hX1] at g0
  have g0 := g0.alloc (.cells #[.string ⟨#[118]⟩, .string ⟨#[122]⟩, .slice none 0 0, .slice none 0 0] 59)
  rw [← hX2] at g0
  have g0 := g0.alloc (.cells #[.string ⟨#[117]⟩, .string ⟨#[121]⟩, .slice none 0 0, .slice none 0 0, .string ⟨#[118]⟩, .string ⟨#[122]⟩, .slice none 0 0, .slice none 0 0] 59)
  rw [← hX3] at g0
  have g0 := g0.alloc (.cells #[.slice none 0 0, .slice (some ⟨w.heap.size, 0, none⟩) 1 1, .slice (some ⟨w.heap.size + 1 + 1 + 1, 0, none⟩) 2 2] 28)
  rw [← hX4] at g0
  have g0 := g0.alloc (.cells #[.string ⟨#[98]⟩] 9)
  rw [← hX5] at g0
  have g0 := g0.alloc (.cells #[.string ⟨#[117]⟩, .string ⟨#[121]⟩, .slice none 0 0, .slice none 0 0] 59)
  rw [← hX6] at g0
  have g0 := g0.alloc (.cells #[.string ⟨#[119]⟩, .string ⟨#[120]⟩, .slice none 0 0, .slice none 0 0] 59)
  rw [← hX7] at g0
  have g0 := g0.alloc (.cells #[.string ⟨#[117]⟩, .string ⟨#[121]⟩, .slice none 0 0, .slice none 0 0, .string ⟨#[119]⟩, .string ⟨#[120]⟩, .slice none 0 0, .slice none 0 0] 59)
  rw [← hX8] at g0
  have g0 := g0.alloc (.cells #[.slice none 0 0, .slice (some ⟨w.heap.size + 1 + 1 + 1 + 1 + 1, 0, none⟩) 1 1, .slice (some ⟨w.heap.size + 1 + 1 + 1 + 1 + 1 + 1 + 1 + 1, 0, none⟩) 2 2] 26)
  rw [← hX9] at g0
  have g3 : Blk X3 (w.heap.size + 1 + 1 + 1) 59 #[.string ⟨#[117]⟩, .string ⟨#[121]⟩, .slice none 0 0, .slice none 0 0, .string ⟨#[118]⟩, .string ⟨#[122]⟩, .slice none 0 0, .slice none 0 0] := by
    have := Blk.new X2 59 #[.string ⟨#[117]⟩, .string ⟨#[121]⟩, .slice none 0 0, .slice none 0 0, .string ⟨#[118]⟩, .string ⟨#[122]⟩, .slice none 0 0, .slice none 0 0]
    rw [← hX3, z2] at this
    exact this
  have g3 := g3.alloc (.cells #[.slice none 0 0, .slice (some ⟨w.heap.size, 0, none⟩) 1 1, .slice (some ⟨w.heap.size + 1 + 1 + 1, 0, none⟩) 2 2] 28)
  rw [← hX4] at g3
  have g3 := g3.alloc (.cells #[.string ⟨#[98]⟩] 9)
  rw [← hX5] at g3
  have g3 := g3.alloc (.cells #[.string ⟨#[117]⟩, .string ⟨#[121]⟩, .slice none 0 0, .slice none 0 0] 59)
  rw [← hX6] at g3
  have g3 := g3.alloc (.cells #[.string ⟨#[119]⟩, .string ⟨#[120]⟩, .slice none 0 0, .slice none 0 0] 59)
  rw [← hX7] at g3
  have g3 := g3.alloc (.cells #[.string ⟨#[117]⟩, .string ⟨#[121]⟩, .slice none 0 0, .slice none 0 0, .string ⟨#[119]⟩, .string ⟨#[120]⟩, .slice none 0 0, .slice none 0 0] 59)
  rw [← hX8] at g3
  have g3 := g3.alloc (.cells #[.slice none 0 0, .slice (some ⟨w.heap.size + 1 + 1 + 1 + 1 + 1, 0, none⟩) 1 1, .slice (some ⟨w.heap.size + 1 + 1 + 1 + 1 + 1 + 1 + 1 + 1, 0, none⟩) 2 2] 26)
  rw [← hX9] at g3
  have g5 : Blk X5 (w.heap.size + 1 + 1 + 1 + 1 + 1) 9 #[.string ⟨#[98]⟩] := by
    have := Blk.new X4 9 #[.string ⟨#[98]⟩]
    rw [← hX5, z4] at this
    exact this
  have g5 := g5.alloc (.cells #[.string ⟨#[117]⟩, .string ⟨#[121]⟩, .slice none 0 0, .slice none 0 0] 59)
  rw [← hX6] at g5
  have g5 := g5.alloc (.cells #[.string ⟨#[119]⟩, .string ⟨#[120]⟩, .slice none 0 0, .slice none 0 0] 59)
  rw [← hX7] at g5
  have g5 := g5.alloc (.cells #[.string ⟨#[117]⟩, .string ⟨#[121]⟩, .slice none 0 0, .slice none 0 0, .string ⟨#[119]⟩, .string ⟨#[120]⟩, .slice none 0 0, .slice none 0 0] 59)
  rw [← hX8] at g5
  have g5 := g5.alloc (.cells #[.slice none 0 0, .slice (some ⟨w.heap.size + 1 + 1 + 1 + 1 + 1, 0, none⟩) 1 1, .slice (some ⟨w.heap.size + 1 + 1 + 1 + 1 + 1 + 1 + 1 + 1, 0, none⟩) 2 2] 26)
  rw [← hX9] at g5
  have g8 : Blk X8 (w.heap.size + 1 + 1 + 1 + 1 + 1 + 1 + 1 + 1) 59 #[.string ⟨#[117]⟩, .string ⟨#[121]⟩, .slice none 0 0, .slice none 0 0, .string ⟨#[119]⟩, .string ⟨#[120]⟩, .slice none 0 0, .slice none 0 0] := by
    have := Blk.new X7 59 #[.string ⟨#[117]⟩, .string ⟨#[121]⟩, .slice none 0 0, .slice none 0 0, .string ⟨#[119]⟩, .string ⟨#[120]⟩, .slice none 0 0, .slice none 0 0]
    rw [← hX8, z7] at this
    exact this
  have g8 := g8.alloc (.cells #[.slice none 0 0, .slice (some ⟨w.heap.size + 1 + 1 + 1 + 1 + 1, 0, none⟩) 1 1, .slice (some ⟨w.heap.size + 1 + 1 + 1 + 1 + 1 + 1 + 1 + 1, 0, none⟩) 2 2] 26)
  rw [← hX9] at g8
  have g9 : Blk X9 (w.heap.size + 1 + 1 + 1 + 1 + 1 + 1 + 1 + 1 + 1) 26 #[.slice none 0 0, .slice (some ⟨w.heap.size + 1 + 1 + 1 + 1 + 1, 0, none⟩) 1 1, .slice (some ⟨w.heap.size + 1 + 1 + 1 + 1 + 1 + 1 + 1 + 1, 0, none⟩) 2 2] := by
    have := Blk.new X8 26 #[.slice none 0 0, .slice (some ⟨w.heap.size + 1 + 1 + 1 + 1 + 1, 0, none⟩) 1 1, .slice (some ⟨w.heap.size + 1 + 1 + 1 + 1 + 1 + 1 + 1 + 1, 0, none⟩) 2 2]
    rw [← hX9, z8] at this
    exact this
  exact ⟨X9, by rw [hX9, hX8, hX7, hX6, hX5, hX4, hX3, hX2, hX1, hX0], b9, z9, g0, g3, g5, g8, g9⟩
set_option maxRecDepth 100000 in
set_option maxHeartbeats 4000000 in
theorem shown21_any (w : World) : Calls Tryz.prog 10 #[] w fun e w' => e = .returned (.bool true) ∧ Below w.heap.size w w' := by
  have hu := fun (a b : ByteArray) (W : World) => unitL_any a b W
  obtain ⟨W, hW, hb, hz, g0, g3, g5, g8, g9⟩ := sh_world w
  have ho : ObsAt W W.heap.size (nowS (w.heap.size) (w.heap.size + 1 + 1 + 1)) := obs_s (a := ([117], [121])) (b := ([118], [122])) g0 g3 (by omega) (by omega)
  have hs : ObsAt W W.heap.size (sysS (w.heap.size + 1 + 1 + 1 + 1 + 1) (w.heap.size + 1 + 1 + 1 + 1 + 1 + 1 + 1 + 1)) := obs_s (a := ([117], [121])) (b := ([119], [120])) g5 g8 (by omega) (by omega)
  have hsm : SmallO (sysS (w.heap.size + 1 + 1 + 1 + 1 + 1) (w.heap.size + 1 + 1 + 1 + 1 + 1 + 1 + 1 + 1)) := small_s _ _ _ _ (by decide) (fun u hu => by
    rcases List.mem_cons.1 hu with rfl | hu
    · exact small_su _ _ (by decide) (by decide)
    · rw [List.mem_singleton.1 hu]; exact small_su _ _ (by decide) (by decide))
  have hac := acts21_any ho hs (Nat.le_refl _) hsm ⟨by show 0 ≤ 1048576; omega, by show 1 ≤ 1048576; omega, by show 2 ≤ 1048576; omega⟩
  have HSY := Lib.hid hs
  have HSM := Lib.hid hsm
  have HB := Lib.hid hb
  have HG9 := Lib.hid g9
  have HW := Lib.hid hW
  rw [hW] at hac
  unfold nowS sysS ovS ovArr at hac
  simp only at hac
  clear hW hb hz g0 g3 g5 g8 g9 ho hs hsm
  go_enter Tryz.func10, Tryz.ntmps10
  go_wp2_with (first
    | (go_at_call 35; refine (hu _ _ _).mono ?_; rintro e2 w2 ⟨rfl, rfl⟩)
    | (go_at_call 28; refine hac.mono ?_; clear hac; rintro e3 w3 ⟨A3, n3, c3, l, rfl, hl, ho3⟩; rw [← HW.out] at ho3; have hg9 := HG9.out.below ho3.bel HG9.out.lt; have y0 := hg9.cell 0; have y1 := hg9.cell 1; have y2 := hg9.cell 2; simp only [List.getElem?_toArray, List.getElem?_cons_zero, List.getElem?_cons_succ] at y0 y1 y2; have hent := Entries21_right (HSY.out.below ho3.bel) ho3.bel.size HSM.out shown_right; obtain ⟨hn3, hsi, htx⟩ := shown_simple ho3.at_ (hl.trans shown_acts); have HSI := Lib.hid hsi; have HTX := Lib.hid htx; have HN3 := Lib.hid hn3; have HAT := Lib.hid ho3.at_; have HB3 := Lib.hid (HB.out.trans (ho3.bel.mono HB.out.size)); unfold sysS ovS ovArr at hent; simp only at hent; clear hl ho3 hg9 hsi htx hn3)
    | (go_at_call 13; refine hent.mono ?_; clear hent; rintro e4 w4 ⟨A4, n4, c4, es, fs, x, rfl, -, hes, hla, -, hb4⟩; obtain ⟨rfl, b0, off, x0, rfl, hb0, c0, c2, hS⟩ := shown_laid hla hes; have htt := textS_any (HAT.out.below hb4) hb4.size (by rw [HN3.out]; decide) HSI.out; have HFC := Lib.hid (fun (W : World) (hW : Below w.heap.size w4 W) (hW2 : Below w4.heap.size w4 W) => show W.cell? ⟨b0, off, none⟩ = some (.string ⟨#[115, 121, 115, 116, 101, 109]⟩) ∧ W.cell? ⟨b0, off + 2, none⟩ = some (.slice x0.A x0.n x0.c) ∧ Slc W w4.heap.size 1 x0.A x0.n x0.c _ from ⟨(hW2.cell (p := ⟨b0, off, none⟩) hb0).trans c0, (hW2.cell (p := ⟨b0, off + 2, none⟩) hb0).trans c2, hS.below hW2⟩); have HB4 := Lib.hid (HB3.out.trans (hb4.mono HB3.out.size)); clear hes hla hb4 hb0 c0 c2 hS)
    | (go_at_call 31; refine htt.mono ?_; clear htt; rintro e5 w5 ⟨b5, rfl, hb5, hbe⟩; obtain rfl : b5 = ⟨#[115, 116, 111, 112, 32, 118, 10, 100, 114, 111, 112, 32, 97, 10, 117, 115, 101, 114, 32, 98, 10, 115, 116, 97, 114, 116, 32, 119, 10, 114, 117, 110, 32, 120, 10, 101, 110, 100, 10]⟩ := bytes_inj (hb5.trans HTX.out); obtain ⟨c0, c2, hS⟩ := HFC.out w5 (hbe.mono HB4.out.size) hbe; have kc := convert_bytes (P := Tryz.prog) (src := 33) Tryz.underlying33 Tryz.underlying5 hS 9 Tryz.underlying9; have HB5 := Lib.hid (HB4.out.trans (hbe.mono HB4.out.size)); clear hb5 hbe hS))
  go_ret
  exact ⟨rfl, HB5.out⟩
end Go.Proofs.YtibndaianhlcaaaGreatDoor
namespace Go.Proofs.YtibndaianhlcaaaGreatDoor
open Go.RowKit Go.Sort
set_option linter.unusedVariables false
set_option linter.unusedSimpArgs false

/-- One cell of a row is written. -/
theorem Row.set1 {w : World} {F : Nat → Prop} {e : TypeId} {sz : Nat} {g n cap : Nat} {xs : List Value} (h : Row w F e sz (.slice (some ⟨g, 0, none⟩) n cap) n xs) (i : Nat) (v : Value) :
    Row (w.setCell ⟨g, i, none⟩ v) F e sz (.slice (some ⟨g, 0, none⟩) n cap) n (xs.set i v) := by
  rcases h.own.2 with ⟨h9, _⟩ | ⟨g', cap', cur', hv, h1, h2, h3, h4, h5, h6⟩
  · cases h9
  · injection hv with hv hn hc
    injection hv with hv
    injection hv with hv
    subst hv hc
    refine ⟨⟨by rw [List.length_set]; exact h.own.1, .inr ⟨g, cap, cur'.setIfInBounds i v, rfl, h1, ?_, h3, h4, by simpa using h5, ?_⟩⟩, h.foot⟩
    · simp [World.setCell, Array.getElem?_modify, h2]
    · rw [Array.toList_setIfInBounds, ← h6, List.take_set]
def reqV (u : SV) : Value := .slice u.A u.n u.c
def aftV (u : SV) : Value := .slice u.A2 u.n2 u.c2
/-- Units while they are put together: the last one's lists share no memory with another list. -/
structure BldU (w : World) (F : Nat → Prop) (A : Option Addr) (n c : Nat) (us : List SV) : Prop where
  own : OwnU w F A n c us
  sep : ∀ m u, us = m ++ [u] → ∃ H, H ≤ w.heap.size ∧ (∀ x ∈ m, ∀ k, (reqV x).ownBlock = some k ∨ (aftV x).ownBlock = some k → k < H) ∧ (∀ k, (reqV u).ownBlock = some k → H ≤ k ∧ (aftV u).ownBlock ≠ some k) ∧ ∀ k, (aftV u).ownBlock = some k → H ≤ k
theorem BldU.nil (w : World) (F : Nat → Prop) : BldU w F none 0 0 [] := ⟨OwnU.nil w F, fun m u h => by cases m <;> cases h⟩
theorem BldU.keep {w w' : World} {F : Nat → Prop} {A : Option Addr} {n c : Nat} {us : List SV} (h : BldU w F A n c us) (hs : w.heap.size ≤ w'.heap.size) (hb : ∀ k, k < w.heap.size → F k → w'.heap[k]? = w.heap[k]?) : BldU w' F A n c us :=
  ⟨h.own.keep hb, fun m u e => by obtain ⟨H, h1, h2⟩ := h.sep m u e; exact ⟨H, Nat.le_trans h1 hs, h2⟩⟩
theorem BldU.below {w w' : World} {F : Nat → Prop} {A : Option Addr} {n c : Nat} {us : List SV} (h : BldU w F A n c us) (hb : Below w.heap.size w w') : BldU w' F A n c us := h.keep hb.size fun k hk _ => hb.block k hk
theorem OwnU.unitsAt {w : World} {F : Nat → Prop} {A : Option Addr} {n c : Nat} {us : List SV} (h : OwnU w F A n c us) : UnitsAt w w.heap.size A n c us :=
  ⟨h.row.slc', h.len, fun u hu => (h.req u hu).slc', fun u hu => (h.aft u hu).slc'⟩
/-- A unit is begun. -/
theorem BldU.begin {w : World} {F : Nat → Prop} {A : Option Addr} {n c : Nat} {us : List SV} (h : BldU w F A n c us) (name : Txt) (hn : n ≤ 1000000000) :
    ∃ A' c' w', (Builtin.append_ #[24, 24] 24 #[.slice A n c, .slice (some ⟨w.heap.size, 0, none⟩) 1 1]).run Tryz.prog (w.alloc (.cells (svArr ⟨name, [], [], none, 0, 0, [], none, 0, 0⟩) 59)) = .ok (.slice A' (n + 1) c') w' ∧
      BldU w' (Fn F w w') A' (n + 1) c' (us ++ [⟨name, [], [], none, 0, 0, [], none, 0, 0⟩]) ∧ Step w w' F (Fn F w w') := by
  obtain ⟨A', c', w', h1, h2, h3⟩ := h.own.append ⟨name, [], [], none, 0, 0, [], none, 0, 0⟩ (Row.nil _ _ _ _) (Row.nil _ _ _ _) hn
  refine ⟨A', c', w', h1, ⟨h2, fun m u e => ?_⟩, ((Step.refl w F).grown h3 (fun k hk => .inl (h.own.row.foot k hk))).fn⟩
  obtain ⟨rfl, e2⟩ := List.append_inj' e rfl
  injection e2 with e2
  subst e2
  refine ⟨w.heap.size, h3.size, fun x hx k hk => ?_, (fun k hk => by cases hk), (fun k hk => by cases hk)⟩
  rcases hk with hk | hk
  · exact (h.own.req x hx).lt k hk
  · exact (h.own.aft x hx).lt k hk
theorem last_cells {m : List SV} {u u' : SV} {i : Nat} (hi : i < 4) {v : Value} (hv : (svCells u).set i v = svCells u') : ((m ++ [u]).flatMap svCells).set (m.length * 4 + i) v = (m ++ [u']).flatMap svCells := by
  have hl : (m.flatMap svCells).length = m.length * 4 := flatMap_len svCells 4 m (fun o _ => svCells_length o)
  rw [List.flatMap_append, List.flatMap_append, List.set_append_right _ _ (by omega), hl, show m.length * 4 + i - m.length * 4 = i by omega]
  simp [hv]
/-- The last unit's cells. -/
theorem BldU.last {w : World} {F : Nat → Prop} {A : Option Addr} {n c : Nat} {m : List SV} {u : SV} (h : BldU w F A n c (m ++ [u])) : n = m.length + 1 ∧ ∃ g, A = some ⟨g, 0, none⟩ ∧ F g ∧ g < w.heap.size ∧
    (∀ i, i < 4 → w.cell? ⟨g, m.length * 4 + i, none⟩ = (svCells u)[i]?) ∧ ∀ i, w.frozen? ⟨g, i, none⟩ = false := by
  have hl := h.own.len
  rw [List.length_append, List.length_singleton] at hl
  obtain ⟨g, cap, cur, e, f1, f2, f3, f4, f5, f6, f7⟩ := h.own.row.form (by omega)
  injection e with e
  subst e
  refine ⟨by omega, g, rfl, f1, f2, fun i hi => ?_, fun i => f3.frozen i⟩
  rw [f3.cell]
  have e1 : (cur.toList.take (n * 4))[m.length * 4 + i]? = (svCells u)[i]? := by
    rw [f7, List.flatMap_append, List.getElem?_append_right (by rw [flatMap_len svCells 4 m (fun o _ => svCells_length o)]; omega), flatMap_len svCells 4 m (fun o _ => svCells_length o)]
    rw [show m.length * 4 + i - m.length * 4 = i by omega]
    simp
  rw [List.getElem?_take_of_lt (by omega)] at e1
  rw [← e1]
  simp
theorem own_set {w : World} {F : Nat → Prop} {g n c : Nat} {m : List SV} {u : SV} (h : OwnU w F (some ⟨g, 0, none⟩) n c (m ++ [u])) {i : Nat} (hi : i < 4) {v : Value} {u' : SV} (hv : (svCells u).set i v = svCells u') (k1 : Row w F 9 1 (reqV u') u'.n (u'.req.map encStr)) (k2 : Row w F 9 1 (aftV u') u'.n2 (u'.aft.map encStr)) :
    OwnU (w.setCell ⟨g, m.length * 4 + i, none⟩ v) F (some ⟨g, 0, none⟩) n c (m ++ [u']) := by
  obtain ⟨cur, fr, hcu⟩ := row_typed h.row g rfl
  have hot : ∀ (k : Nat) (cur : Array Value) (fr : Nat × Nat), w.heap[k]? = some (Obj.cells cur 9 fr) → (w.setCell ⟨g, m.length * 4 + i, none⟩ v).heap[k]? = w.heap[k]? := fun k cur' fr' hk => by
    refine Below.heap_setCell w _ _ k (fun e1 => ?_)
    simp only at e1
    subst e1
    rw [hcu] at hk
    injection hk with hk
    injection hk with _ hk
    revert hk
    decide
  have hrow := h.row.set1 (m.length * 4 + i) v
  rw [last_cells hi hv] at hrow
  refine ⟨hrow, fun x hx => ?_, fun x hx => ?_⟩
  · rcases List.mem_append.1 hx with hx | hx
    · exact (h.req x (List.mem_append.2 (.inl hx))).other hot
    · rw [List.mem_singleton.1 hx]; exact k1.other hot
  · rcases List.mem_append.1 hx with hx | hx
    · exact (h.aft x (List.mem_append.2 (.inl hx))).other hot
    · rw [List.mem_singleton.1 hx]; exact k2.other hot
/-- A unit's command. -/
theorem BldU.start {w : World} {F : Nat → Prop} {g n c : Nat} {m : List SV} {u : SV} (h : BldU w F (some ⟨g, 0, none⟩) n c (m ++ [u])) (r : Txt) :
    BldU (w.setCell ⟨g, m.length * 4 + 1, none⟩ (.string ⟨r.toArray⟩)) F (some ⟨g, 0, none⟩) n c (m ++ [⟨u.name, r, u.req, u.A, u.n, u.c, u.aft, u.A2, u.n2, u.c2⟩]) := by
  refine ⟨own_set h.own (by decide) (u' := ⟨u.name, r, u.req, u.A, u.n, u.c, u.aft, u.A2, u.n2, u.c2⟩) rfl (h.own.req u (by simp)) (h.own.aft u (by simp)), fun m' u' e => ?_⟩
  obtain ⟨rfl, e2⟩ := List.append_inj' e rfl
  injection e2 with e2
  subst e2
  obtain ⟨H, h1, h2⟩ := h.sep m u rfl
  exact ⟨H, by simpa using h1, h2⟩
theorem Row.appS {w : World} {F : Nat → Prop} {v : Value} {n : Nat} {l : List Txt} (h : Row w F 9 1 v n (l.map encStr)) (r : Txt) (hn : n ≤ 1000000000) :
    ∃ A' c' w', (Builtin.append_ #[23, 23] 23 #[v, .slice (some ⟨w.heap.size, 0, none⟩) 1 1]).run Tryz.prog (w.alloc (.cells #[.string ⟨r.toArray⟩] 9)) = .ok (.slice A' (n + 1) c') w' ∧
      w'.ownsRow 0 9 1 (.slice A' (n + 1) c') (n + 1) ((l ++ [r]).map encStr) ∧ w.grownBy w' v.ownBlock ∧ (Value.slice A' (n + 1) c').ownBlock ≠ none ∧ ((Value.slice A' (n + 1) c').ownBlock = v.ownBlock ∨ ∀ k, (Value.slice A' (n + 1) c').ownBlock = some k → w.heap.size < k) := by
  obtain ⟨i, hi, hz0, hz1, hz2⟩ := info_parts str_info
  have hS := slc_new w 9 (0, 0) #[.string ⟨r.toArray⟩] (sz := 1) (n := 1) (c := 1) rfl (Nat.le_refl _) (by decide)
  obtain ⟨A', c', w', r1, r2, r3, r4⟩ := append_slc (P := Tryz.prog) (w.alloc (.cells #[.string ⟨r.toArray⟩] 9)) 0 23 23 9 i _ 1 16 Tryz.underlying23 hi hz0 hz1 hz2 rfl (by decide) _ n (l.map encStr) (h.own.alloc _) _ _ 1 1 [.string ⟨r.toArray⟩] hS (fun v hv => by rw [List.mem_singleton.1 hv]; rfl) (by unfold maxLen; omega) (by omega) (Nat.zero_le _)
  refine ⟨A', c', w', r1, ?_, ⟨r3.os, r3.tape, r3.output, Nat.le_trans (by simp) r3.size, fun k hk hne => by rw [r3.block k (by simp; omega) hne, Below.heap_alloc w _ k hk]⟩, ?_, ?_⟩
  · rw [List.map_append]; exact r2
  · rcases r2.2 with ⟨_, h0⟩ | ⟨g, cap, cur, e, _⟩
    · omega
    · rw [e]; simp [Value.ownBlock]
  · rcases r4 with r4 | r4
    · exact .inl r4
    · refine .inr fun k hk => ?_
      rw [r4] at hk
      injection hk with hk
      simp at hk
      omega
/-- A name more in the last unit's first list. -/
theorem BldU.req {w : World} {F : Nat → Prop} {g n c : Nat} {m : List SV} {u : SV} (h : BldU w F (some ⟨g, 0, none⟩) n c (m ++ [u])) (r : Txt) (hn : u.n ≤ 1000000000) :
    ∃ A' c' w', (Builtin.append_ #[23, 23] 23 #[.slice u.A u.n u.c, .slice (some ⟨w.heap.size, 0, none⟩) 1 1]).run Tryz.prog (w.alloc (.cells #[.string ⟨r.toArray⟩] 9)) = .ok (.slice A' (u.n + 1) c') w' ∧
      BldU (w'.setCell ⟨g, m.length * 4 + 2, none⟩ (.slice A' (u.n + 1) c')) (Fn F w w') (some ⟨g, 0, none⟩) n c (m ++ [⟨u.name, u.start, u.req ++ [r], A', u.n + 1, c', u.aft, u.A2, u.n2, u.c2⟩]) ∧ Step w w' F (Fn F w w') ∧ F g ∧
      (∀ (k : Nat) (cur : Array Value) (fr : Nat × Nat) (e : TypeId), e ≠ 9 → w.heap[k]? = some (Obj.cells cur e fr) → w'.heap[k]? = w.heap[k]?) := by
  have hr0 := h.own.req u (by simp)
  obtain ⟨A', c', w', r1, r2, r3, r4, r5⟩ := hr0.appS r hn
  obtain ⟨H, s1, s2, s3, s4⟩ := h.sep m u rfl
  have hot := fun (e : TypeId) (he : e ≠ 9) => grown_other r3 (row_typed hr0) (e := e) he
  have hk : ∀ {v : Value} {nn : Nat} {xs : List Value}, Row w F 9 1 v nn xs → (∀ k, v.ownBlock = some k → (reqV u).ownBlock ≠ some k) → Row w' (Fn F w w') 9 1 v nn xs := fun hR hne => hR.kept (fun k hkk => r3.block k (hR.lt k hkk) (fun e => hne k hkk e.symm)) (fun k hkk => .inl (hR.foot k hkk))
  have hA : Row w' (Fn F w w') 9 1 (.slice A' (u.n + 1) c') (u.n + 1) ((u.req ++ [r]).map encStr) := ⟨r2, fun k hkk => by
    rcases r5 with r5 | r5
    · exact .inl (hr0.foot k (by rw [← r5]; exact hkk))
    · exact .inr ⟨Nat.le_of_lt (r5 k hkk), (r2.lt k hkk).2⟩⟩
  have hold : ∀ x ∈ m, ∀ k, (reqV x).ownBlock = some k ∨ (aftV x).ownBlock = some k → (reqV u).ownBlock ≠ some k := fun x hx k hkk e => by
    have h1 := s2 x hx k hkk
    have h2 := (s3 k e).1
    omega
  have haft : Row w' (Fn F w w') 9 1 (aftV u) u.n2 (u.aft.map encStr) := hk (h.own.aft u (by simp)) (fun k hkk e => (s3 k e).2 hkk)
  have hrow : Row w' (Fn F w w') 59 4 (.slice (some ⟨g, 0, none⟩) n c) n ((m ++ [u]).flatMap svCells) := (h.own.row.other (hot _ (by decide))).wide (fn_wide _ _ _)
  have hmid : ∀ x ∈ m, Row w' (Fn F w w') 9 1 (reqV x) x.n (x.req.map encStr) ∧ Row w' (Fn F w w') 9 1 (aftV x) x.n2 (x.aft.map encStr) := fun x hx =>
    ⟨hk (h.own.req x (List.mem_append.2 (.inl hx))) (fun k hkk => hold x hx k (.inl hkk)), hk (h.own.aft x (List.mem_append.2 (.inl hx))) (fun k hkk => hold x hx k (.inr hkk))⟩
  refine ⟨A', c', w', r1, ⟨?_, fun m' u' e => ?_⟩, ((Step.refl w F).grown r3 (fun k hk => .inl (hr0.foot k hk))).fn, h.own.row.foot g rfl, fun k cur fr e he hkk => hot e he k cur fr hkk⟩
  · obtain ⟨cur, fr, hcu⟩ := row_typed hrow g rfl
    have ho2 : ∀ (k : Nat) (cur : Array Value) (fr : Nat × Nat), w'.heap[k]? = some (Obj.cells cur 9 fr) → (w'.setCell ⟨g, m.length * 4 + 2, none⟩ (.slice A' (u.n + 1) c')).heap[k]? = w'.heap[k]? := fun k cur' fr' hkk => by
      refine Below.heap_setCell w' _ _ k (fun e1 => ?_)
      simp only at e1
      subst e1
      rw [hcu] at hkk
      injection hkk with hkk
      injection hkk with _ hkk
      revert hkk
      decide
    have h9 := hrow.set1 (m.length * 4 + 2) (.slice A' (u.n + 1) c')
    rw [last_cells (u' := ⟨u.name, u.start, u.req ++ [r], A', u.n + 1, c', u.aft, u.A2, u.n2, u.c2⟩) (by decide) rfl] at h9
    refine ⟨h9, fun x hx => ?_, fun x hx => ?_⟩
    · rcases List.mem_append.1 hx with hx | hx
      · exact (hmid x hx).1.other ho2
      · rw [List.mem_singleton.1 hx]; exact hA.other ho2
    · rcases List.mem_append.1 hx with hx | hx
      · exact (hmid x hx).2.other ho2
      · rw [List.mem_singleton.1 hx]; exact haft.other ho2
  · obtain ⟨rfl, e2⟩ := List.append_inj' e rfl
    injection e2 with e2
    subst e2
    refine ⟨H, by simp; exact Nat.le_trans s1 r3.size, s2, fun k hkk => ?_, s4⟩
    have hkk : (Value.slice A' (u.n + 1) c').ownBlock = some k := hkk
    rcases r5 with r5 | r5
    · rw [r5] at hkk
      exact s3 k hkk
    · have h1 := r5 k hkk
      refine ⟨by omega, fun e => ?_⟩
      have h2 := (h.own.aft u (by simp)).lt k e
      omega
/-- A name more in the last unit's second list. -/
theorem BldU.aft {w : World} {F : Nat → Prop} {g n c : Nat} {m : List SV} {u : SV} (h : BldU w F (some ⟨g, 0, none⟩) n c (m ++ [u])) (r : Txt) (hn : u.n2 ≤ 1000000000) :
    ∃ A' c' w', (Builtin.append_ #[23, 23] 23 #[.slice u.A2 u.n2 u.c2, .slice (some ⟨w.heap.size, 0, none⟩) 1 1]).run Tryz.prog (w.alloc (.cells #[.string ⟨r.toArray⟩] 9)) = .ok (.slice A' (u.n2 + 1) c') w' ∧
      BldU (w'.setCell ⟨g, m.length * 4 + 3, none⟩ (.slice A' (u.n2 + 1) c')) (Fn F w w') (some ⟨g, 0, none⟩) n c (m ++ [⟨u.name, u.start, u.req, u.A, u.n, u.c, u.aft ++ [r], A', u.n2 + 1, c'⟩]) ∧ Step w w' F (Fn F w w') ∧ F g ∧
      (∀ (k : Nat) (cur : Array Value) (fr : Nat × Nat) (e : TypeId), e ≠ 9 → w.heap[k]? = some (Obj.cells cur e fr) → w'.heap[k]? = w.heap[k]?) := by
  have hr0 := h.own.aft u (by simp)
  obtain ⟨A', c', w', r1, r2, r3, r4, r5⟩ := hr0.appS r hn
  obtain ⟨H, s1, s2, s3, s4⟩ := h.sep m u rfl
  have hot := fun (e : TypeId) (he : e ≠ 9) => grown_other r3 (row_typed hr0) (e := e) he
  have hk : ∀ {v : Value} {nn : Nat} {xs : List Value}, Row w F 9 1 v nn xs → (∀ k, v.ownBlock = some k → (aftV u).ownBlock ≠ some k) → Row w' (Fn F w w') 9 1 v nn xs := fun hR hne => hR.kept (fun k hkk => r3.block k (hR.lt k hkk) (fun e => hne k hkk e.symm)) (fun k hkk => .inl (hR.foot k hkk))
  have hA : Row w' (Fn F w w') 9 1 (.slice A' (u.n2 + 1) c') (u.n2 + 1) ((u.aft ++ [r]).map encStr) := ⟨r2, fun k hkk => by
    rcases r5 with r5 | r5
    · exact .inl (hr0.foot k (by rw [← r5]; exact hkk))
    · exact .inr ⟨Nat.le_of_lt (r5 k hkk), (r2.lt k hkk).2⟩⟩
  have hold : ∀ x ∈ m, ∀ k, (reqV x).ownBlock = some k ∨ (aftV x).ownBlock = some k → (aftV u).ownBlock ≠ some k := fun x hx k hkk e => by
    have h1 := s2 x hx k hkk
    have h2 := s4 k e
    omega
  have hreq : Row w' (Fn F w w') 9 1 (reqV u) u.n (u.req.map encStr) := hk (h.own.req u (by simp)) (fun k hkk => (s3 k hkk).2)
  have hrow : Row w' (Fn F w w') 59 4 (.slice (some ⟨g, 0, none⟩) n c) n ((m ++ [u]).flatMap svCells) := (h.own.row.other (hot _ (by decide))).wide (fn_wide _ _ _)
  have hmid : ∀ x ∈ m, Row w' (Fn F w w') 9 1 (reqV x) x.n (x.req.map encStr) ∧ Row w' (Fn F w w') 9 1 (aftV x) x.n2 (x.aft.map encStr) := fun x hx =>
    ⟨hk (h.own.req x (List.mem_append.2 (.inl hx))) (fun k hkk => hold x hx k (.inl hkk)), hk (h.own.aft x (List.mem_append.2 (.inl hx))) (fun k hkk => hold x hx k (.inr hkk))⟩
  refine ⟨A', c', w', r1, ⟨?_, fun m' u' e => ?_⟩, ((Step.refl w F).grown r3 (fun k hk => .inl (hr0.foot k hk))).fn, h.own.row.foot g rfl, fun k cur fr e he hkk => hot e he k cur fr hkk⟩
  · obtain ⟨cur, fr, hcu⟩ := row_typed hrow g rfl
    have ho2 : ∀ (k : Nat) (cur : Array Value) (fr : Nat × Nat), w'.heap[k]? = some (Obj.cells cur 9 fr) → (w'.setCell ⟨g, m.length * 4 + 3, none⟩ (.slice A' (u.n2 + 1) c')).heap[k]? = w'.heap[k]? := fun k cur' fr' hkk => by
      refine Below.heap_setCell w' _ _ k (fun e1 => ?_)
      simp only at e1
      subst e1
      rw [hcu] at hkk
      injection hkk with hkk
      injection hkk with _ hkk
      revert hkk
      decide
    have h9 := hrow.set1 (m.length * 4 + 3) (.slice A' (u.n2 + 1) c')
    rw [last_cells (u' := ⟨u.name, u.start, u.req, u.A, u.n, u.c, u.aft ++ [r], A', u.n2 + 1, c'⟩) (by decide) rfl] at h9
    refine ⟨h9, fun x hx => ?_, fun x hx => ?_⟩
    · rcases List.mem_append.1 hx with hx | hx
      · exact (hmid x hx).1.other ho2
      · rw [List.mem_singleton.1 hx]; exact hreq.other ho2
    · rcases List.mem_append.1 hx with hx | hx
      · exact (hmid x hx).2.other ho2
      · rw [List.mem_singleton.1 hx]; exact hA.other ho2
  · obtain ⟨rfl, e2⟩ := List.append_inj' e rfl
    injection e2 with e2
    subst e2
    refine ⟨H, by simp; exact Nat.le_trans s1 r3.size, s2, fun k hkk => ⟨(s3 k hkk).1, fun e => ?_⟩, fun k hkk => ?_⟩
    · have e : (Value.slice A' (u.n2 + 1) c').ownBlock = some k := e
      rcases r5 with r5 | r5
      · rw [r5] at e
        exact (s3 k hkk).2 e
      · have h1 := r5 k e
        have h2 := (h.own.req u (by simp)).lt k hkk
        omega
    · have hkk : (Value.slice A' (u.n2 + 1) c').ownBlock = some k := hkk
      rcases r5 with r5 | r5
      · rw [r5] at hkk
        exact s4 k hkk
      · have h1 := r5 k hkk
        omega
end Go.Proofs.YtibndaianhlcaaaGreatDoor
