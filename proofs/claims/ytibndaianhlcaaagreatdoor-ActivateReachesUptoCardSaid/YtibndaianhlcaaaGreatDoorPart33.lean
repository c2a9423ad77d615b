/- The walk of ActivateReaches. How much an argument holds, where it is of bulk at most 1048576. Arguments that are lists, opened element by element, where they are of bulk at most 1048576. Arguments that are lists of steps, opened. A system that came in, opened, where it is of bulk at most 1048576. ActivateReaches: the arguments opened, where they are of bulk at most 1048576. -/
import Derived.Test.YtibndaianhlcaaaGreatDoorPart31
import Derived.Test.YtibndaianhlcaaaGreatDoorPart32
import Derived.Test.YtibndaianhlcaaaGreatDoorRows
import Derived.WideShapes
import Derived.Test.YtibndaianhlcaaaGreatDoorPart4
import Derived.Test.YtibndaianhlcaaaGreatDoorPart7
import Derived.Test.YtibndaianhlcaaaGreatDoorPart20
import Derived.Test.YtibndaianhlcaaaGreatDoorPart18
namespace Go.Proofs.YtibndaianhlcaaaGreatDoor
open Go.RowKit Go.Sort Go.Shelf
set_option linter.unusedVariables false
set_option linter.unusedSimpArgs false

theorem led_good (l : List ActP) : GoodM (ledM l) := by
  unfold ledM
  have h : ∀ (l : List ActP) (s : Mach), GoodM s → GoodM (l.foldl (fun s a => (doM s a).1) s) := by
    intro l
    induction l with
    | nil => exact fun s h => h
    | cons a l ih => exact fun s h => ih _ (doM_good h a)
  exact h l _ good_new
/-- A machine without a plan comes to be the system. -/
theorem to_reached {m : Mach} (hg : GoodM m) (hp : m.plan = []) {s : SysP} (hs : rightS s = true) : (toM m s).2 = 0 ∧ (toM m s).1.sys = s := by
  obtain ⟨-, h⟩ := to_led hg hs
  rcases h with h | h
  · exact ⟨h.1, h.2.1⟩
  · rw [hp] at h
    have : badN [] = 0 := rfl
    omega
def seenO (A : Option Addr) (n c : Nat) (es : List EV) (A2 : Option Addr) (n2 c2 : Nat) (us : List Txt) (A3 : Option Addr) (n3 c3 : Nat) (vs : List SV) : OV := ⟨A, n, c, es, A2, n2, c2, us, A3, n3, c3, vs⟩
theorem same_sys {a b : OV} (h : sysO a = sysO b) : sameO a b = true := by
  unfold sysO at h
  simp only [SysP.mk.injEq] at h
  exact sameO_of h.1 h.2.1 h.2.2
/-- The box of the system, kept. -/
structure BoxR (W : World) (C b : Nat) (o : OV) : Prop where
  c0 : W.cell? ⟨b, 0, none⟩ = some (.slice o.A o.n o.c)
  c1 : W.cell? ⟨b, 1, none⟩ = some (.slice o.A2 o.n2 o.c2)
  c2 : W.cell? ⟨b, 2, none⟩ = some (.slice o.A3 o.n3 o.c3)
  at_ : ObsAt W C o
  le : C ≤ W.heap.size
theorem box_of {w W0 W : World} {o : OV} (hW0 : W0 = w.alloc (.cells (ovArr o) 26)) (ho : ObsAt w w.heap.size o) (hW : Below W0.heap.size W0 W) : BoxR W w.heap.size w.heap.size o ∧ Below w.heap.size w W ∧ w.heap.size < W.heap.size := by
  have hb0 : Below w.heap.size w W0 := by rw [hW0]; exact bel_new _ _
  have hG0 : Blk W0 w.heap.size 26 (ovArr o) := by rw [hW0]; exact Blk.new _ _ _
  have hG := hG0.below hW hG0.lt
  have hb := hb0.trans (hW.mono hb0.size)
  exact ⟨⟨hG.cell 0, hG.cell 1, hG.cell 2, ho.below hb, hb.size⟩, hb, hG.lt⟩
theorem acts_zero {l : List AV} {n : Nat} (h : l.map AV.act = []) (hl : l.length = n) : n = 0 := by
  rw [← hl, List.map_eq_nil_iff.1 h]
  rfl
theorem m_sys (m : Mach) (q : List Bool) : (⟨m.files, m.users, m.units, q⟩ : Mach).sys = m.sys := rfl
theorem ObsK.lift {W : World} {G : Nat → Prop} {o : OV} (h : ObsK W G o) : ObsAt W W.heap.size o := h.at_
set_option maxRecDepth 100000 in
set_option maxHeartbeats 8000000 in
theorem reaches21_any {w : World} {A : Option Addr} {n c : Nat} {acts : List AV} (hl : ActsAt w w.heap.size A n c acts) (hs : ∀ a ∈ acts, SmallA a) {o : OV} (ho : ObsAt w w.heap.size o) (hso : SmallO o) :
    Calls Tryz.prog 5 #[.slice A n c, .agg (ovArr o)] w fun e w' => e = .returned (.bool true) ∧ Below w.heap.size w w' := by
  obtain ⟨W0, hW0⟩ : ∃ W0, W0 = w.alloc (.cells (ovArr o) 26) := ⟨_, rfl⟩
  have hsh := shown21_any W0
  have HBX := Lib.hid (fun (W : World) (hW : Below W0.heap.size W0 W) => box_of hW0 ho hW)
  have H := Lib.hid hl
  have HS := Lib.hid hs
  have HSO := Lib.hid hso
  have HSS := Lib.hid (hso.sys ho)
  obtain ⟨m0, hm0⟩ : ∃ m0, m0 = ledM ((acts.map AV.act).take 60) := ⟨_, rfl⟩
  have HM0 := Lib.hid hm0
  have HNM := Lib.hid (show NamesM m0 by rw [hm0]; exact led_names _ _ names_new (fun a ha => by obtain ⟨x, hx, rfl⟩ := List.mem_map.1 (List.mem_of_mem_take ha); exact (hs x hx).names))
  have HPN := Lib.hid (show m0.plan = [] by rw [hm0]; exact led_plan _ _ rfl)
  have HGD := Lib.hid (show GoodM m0 by rw [hm0]; exact led_good _)
  obtain ⟨p, hp⟩ : ∃ p, p = sysO o := ⟨_, rfl⟩
  have HP := Lib.hid hp
  rw [hW0] at hsh
  obtain ⟨Ao, no, co, eo, Ao2, no2, co2, uo, Ao3, no3, co3, vo⟩ := o
  unfold ovArr at hsh hW0 ⊢
  simp only at hsh hW0 ⊢
  have HW0 := Lib.hid hW0
  clear hl hs ho hso hm0 hp hW0
  obtain ⟨m1, hm1⟩ : ∃ m1, m1 = (toM m0 p).1 := ⟨_, rfl⟩
  obtain ⟨z1, hz1⟩ : ∃ z1, z1 = (toM m0 p).2 := ⟨_, rfl⟩
  have HM1 := Lib.hid hm1
  have HZ1 := Lib.hid hz1
  clear hm1 hz1
  go_enter Tryz.func5, Tryz.ntmps5
  go_upto_region 7 with (first
    | (go_at_call 10; refine hsh.mono ?_; clear hsh; rintro e w1 ⟨rfl, hb1⟩; rw [← HW0.out] at hb1; have HBY := Lib.hid (fun (W : World) (hW : Below w1.heap.size w1 W) => HBX.out W (hb1.trans (hW.mono hb1.size))); obtain ⟨-, hbw, -⟩ := HBX.out w1 hb1; have hled := led21_any (C := w.heap.size) (H.out.below hbw) hbw.size HS.out; rw [← HM0.out] at hled; clear hb1 hbw)
    | (go_at_call 26; refine hled.mono ?_; clear hled; rintro e w2 ⟨rfl, F, B, hR⟩; have hse := hR.seen; have HR2 := Lib.hid hR; clear hR)
    | (go_at_call 25; refine hse.mono ?_; clear hse; rintro e w3 ⟨Aw, nw, cw, ew, Aw2, nw2, cw2, Aw3, nw3, cw3, uw, rfl, hob⟩; have hR4 := (HR2.out.below hob.bel).below (bel_new w3 (.cells #[.slice Aw nw cw, .slice Aw2 nw2 cw2, .slice Aw3 nw3 cw3] 28)); obtain ⟨hx3, -, hwl⟩ := HBY.out w3 (HR2.out.below hob.bel).bel; have k0 := hx3.c0; have k1 := hx3.c1; have k2 := hx3.c2; obtain ⟨hx4, -, -⟩ := HBY.out _ hR4.bel; have hto := to21_any hR4 HNM.out hx4.at_ hx4.le HSO.out; rw [← HP.out] at hto; have HOB := Lib.hid hob; have HR4 := Lib.hid hR4; unfold ovArr at hto; simp only at hto k0 k1 k2; clear hob hR4 hx3 hx4)
    | (go_at_call 27; refine hto.mono ?_; clear hto; rintro e w5 ⟨rfl, F5, h5, st5⟩; obtain ⟨hx5, -, -⟩ := HBY.out _ h5.bel; have l0 := hx5.c0; have l1 := hx5.c1; have l2 := hx5.c2; have hr := right21_any hx5.at_ hx5.le HSO.out; rw [← HP.out] at hr; rw [← HM1.out] at h5; have HR5 := Lib.hid h5; have HST5 := Lib.hid st5; unfold ovArr at hr; simp only at hr l0 l1 l2; rw [← HZ1.out]; clear h5 st5 hx5))
  cases hrt : rightS p with
  | false =>
    have hto0 : toM m0 p = (m0, 70) := by unfold toM; rw [hrt]; rfl
    obtain rfl : z1 = 70 := by rw [HZ1.out, hto0]
    have hmm : m1 = m0 := by rw [HM1.out, hto0]
    subst hmm
    rw [hrt] at hr
    clear hrt hto0
    have HV5 := Lib.hid ((Blk.new w3 28 #[.slice Aw nw cw, .slice Aw2 nw2 cw2, .slice Aw3 nw3 cw3]).step HST5.out (fun hF => by have := HR2.out.lt _ hF; have := HOB.out.bel.size; omega))
    have HK5 := Lib.hid ((HOB.out.kept.below (bel_new w3 (.cells #[.slice Aw nw cw, .slice Aw2 nw2 cw2, .slice Aw3 nw3 cw3] 28))).step HST5.out (fun k hk hF => by have := HR2.out.lt _ hF; have hk := hk.1; omega))
    go_wp2_with (go_at_call 15; refine hr.mono ?_; clear hr; rintro e w6 ⟨rfl, hb6⟩; have HB6 := Lib.hid (hb6.trans (Below.refl _ w6).drew); clear hb6)
    have hse := (HR5.out.below HB6.out).seen
    have HVS := Lib.hid (fun (W : World) (hW : Below w6.drew.heap.size w6.drew W) => show W.cell? ⟨w3.heap.size, 0, none⟩ = some (.slice Aw nw cw) ∧ W.cell? ⟨w3.heap.size, 1, none⟩ = some (.slice Aw2 nw2 cw2) ∧ W.cell? ⟨w3.heap.size, 2, none⟩ = some (.slice Aw3 nw3 cw3) from by
      have h9 := (HV5.out.below HB6.out HV5.out.lt).below hW (Nat.lt_of_lt_of_le HV5.out.lt HB6.out.size)
      exact ⟨h9.cell 0, h9.cell 1, h9.cell 2⟩)
    obtain ⟨v0, v1, v2⟩ := HVS.out _ (Below.refl _ _)
    go_region_held (fun W' => W'.cell? ⟨w3.heap.size, 0, none⟩ = some (.slice Aw nw cw) ∧ W'.cell? ⟨w3.heap.size, 1, none⟩ = some (.slice Aw2 nw2 cw2) ∧ W'.cell? ⟨w3.heap.size, 2, none⟩ = some (.slice Aw3 nw3 cw3)) (first | exact HVS.out _ HB8.out | exact HVS.out _ HB7.out | exact ⟨v0, v1, v2⟩) (first
      | (go_at_call 25; refine hse.mono ?_; clear hse; rintro e w7 ⟨Ax, nx, cx, ex, Ax2, nx2, cx2, Ax3, nx3, cx3, ux, rfl, ho7⟩; have hsm := same20_any ho7.kept.at_ ((HK5.out.below HB6.out).below ho7.bel).at_ (Nat.le_refl _); rw [same_sys ((sys_seen ho7).trans (sys_seen HOB.out).symm)] at hsm; have HB7 := Lib.hid ho7.bel; unfold ovArr at hsm; clear ho7)
      | (go_at_call 24; refine hsm.mono ?_; clear hsm; rintro e w8 ⟨rfl, hb8⟩; have HB8 := Lib.hid (HB7.out.trans (hb8.mono HB7.out.size)); clear hb8))
    go_wp2_with (fail)
    go_ret
    exact ⟨rfl, (HBY.out _ (HR5.out.bel.trans ((HB6.out.trans (HB8.out.mono HB6.out.size)).mono HR5.out.bel.size))).2.1⟩
  | true =>
    obtain ⟨r1, r2⟩ := to_reached HGD.out HPN.out hrt
    obtain rfl : z1 = 0 := by rw [HZ1.out, r1]
    have HSY := Lib.hid (show m1.sys = p by rw [HM1.out, r2])
    have HN1 := Lib.hid (show NamesM m1 by rw [HM1.out]; exact toM_names HNM.out (HP.out ▸ HSS.out))
    have HRT := Lib.hid hrt
    rw [hrt] at hr
    clear hrt r1 r2
    go_wp2_with (go_at_call 15; refine hr.mono ?_; clear hr; rintro e w6 ⟨rfl, hb6⟩; have HB6 := Lib.hid (hb6.trans (Below.refl _ w6).drew); clear hb6)
    have hR6 := HR5.out.below HB6.out
    have hse := hR6.seen
    have HR6 := Lib.hid hR6
    obtain ⟨hx6, -, -⟩ := HBY.out _ hR6.bel
    have y0 := hx6.c0
    have y1 := hx6.c1
    have y2 := hx6.c2
    simp only at y0 y1 y2
    clear hR6 hx6
    go_region_held (fun W' => W'.cell? ⟨w.heap.size, 0, none⟩ = some (.slice Ao no co) ∧ W'.cell? ⟨w.heap.size, 1, none⟩ = some (.slice Ao2 no2 co2) ∧ W'.cell? ⟨w.heap.size, 2, none⟩ = some (.slice Ao3 no3 co3)) (first | exact HBC8.out | exact HBC7.out | exact ⟨y0, y1, y2⟩) (first
      | (go_at_call 25; refine hse.mono ?_; clear hse; rintro e w7 ⟨Ax, nx, cx, ex, Ax2, nx2, cx2, Ax3, nx3, cx3, ux, rfl, ho7⟩; have hR7 := HR6.out.below ho7.bel; obtain ⟨hx7, -, -⟩ := HBY.out _ hR7.bel; have hme := meets21_any ho7.kept.at_ (hx7.at_.more3 hx7.le) (Nat.le_refl _); rw [same_sys ((sys_seen ho7).trans (HSY.out.trans HP.out))] at hme; have HBC7 := Lib.hid (And.intro hx7.c0 (And.intro hx7.c1 hx7.c2)); have HR7 := Lib.hid hR7; unfold ovArr at hme; simp only at hme HBC7; clear ho7 hx7 hR7)
      | (go_at_call 17; refine hme.mono ?_; clear hme; rintro e w8 ⟨rfl, hb8⟩; have hR8 := HR7.out.below hb8; obtain ⟨hx8, -, -⟩ := HBY.out _ hR8.bel; have HBC8 := Lib.hid (And.intro hx8.c0 (And.intro hx8.c1 hx8.c2)); have HR8 := Lib.hid hR8; simp only at HBC8; clear hx8 hR8 hb8))
    have hR9 := HR8.out.below (bel_new w8 (.cells #[.bool true, .bool true, .bool true] 4))
    have hpl := plan_any hR9.mach (B := w8.heap.size + 1) (p := [true, true, true]) ((Blk.new w8 4 #[.bool true, .bool true, .bool true]).slc (sz := 1) (n := 3) (c := 3) (Nat.le_refl _) (Nat.le_refl _) (by decide)) (by simp) (by decide)
    have HR9 := Lib.hid hR9
    clear hR9
    go_wp2_with (first
      | (go_at_call 21; refine hpl.mono ?_; clear hpl; rintro e w10 ⟨rfl, hm10, st10⟩; have hR10 := HR9.out.planned hm10 st10; obtain ⟨hx10, -, -⟩ := HBY.out _ hR10.bel; have u0 := hx10.c0; have u1 := hx10.c1; have u2 := hx10.c2; have hto := to21_any hR10 ⟨HN1.out.files, HN1.out.users, HN1.out.units⟩ hx10.at_ hx10.le HSO.out; rw [← HP.out, to_again HRT.out ((m_sys m1 [true, true, true]).trans HSY.out)] at hto; unfold ovArr ToPost at hto; simp only at hto u0 u1 u2; clear hm10 st10 hR10 hx10)
      | (go_at_call 27; refine hto.mono ?_; clear hto; rintro e w11 ⟨rfl, F11, h11, -⟩; have HR11 := Lib.hid (h11.below (Below.refl _ w11).drew); clear h11))
    have hse := HR11.out.seen
    obtain ⟨hx11, -, -⟩ := HBY.out _ HR11.out.bel
    have y0 := hx11.c0
    have y1 := hx11.c1
    have y2 := hx11.c2
    simp only at y0 y1 y2
    clear hx11
    go_region_held (fun W' => W'.cell? ⟨w.heap.size, 0, none⟩ = some (.slice Ao no co) ∧ W'.cell? ⟨w.heap.size, 1, none⟩ = some (.slice Ao2 no2 co2) ∧ W'.cell? ⟨w.heap.size, 2, none⟩ = some (.slice Ao3 no3 co3)) (first | exact HBC13.out | exact HBC12.out | exact ⟨y0, y1, y2⟩) (first
      | (go_at_call 25; refine hse.mono ?_; clear hse; rintro e w12 ⟨Ax, nx, cx, ex, Ax2, nx2, cx2, Ax3, nx3, cx3, ux, rfl, ho12⟩; have hR12 := HR11.out.below ho12.bel; obtain ⟨hx12, -, -⟩ := HBY.out _ hR12.bel; have hac := acts21_any (o := ⟨Ax, nx, cx, ex, Ax2, nx2, cx2, m1.users, Ax3, nx3, cx3, ux⟩) ho12.kept.at_ (hx12.at_.more3 hx12.le) (Nat.le_refl _) HSO.out (obs_counts HR11.out.good ho12); rw [show sysO ⟨Ax, nx, cx, ex, Ax2, nx2, cx2, m1.users, Ax3, nx3, cx3, ux⟩ = p from (sys_seen ho12).trans ((m_sys m1 [true, true, true]).trans HSY.out), ← HP.out, show actsR p p = [] from (if_pos HRT.out).trans (acts_none p)] at hac; have HBC12 := Lib.hid (And.intro hx12.c0 (And.intro hx12.c1 hx12.c2)); have HR12 := Lib.hid hR12; unfold ovArr at hac; simp only at hac HBC12; clear ho12 hx12 hR12)
      | (go_at_call 28; refine hac.mono ?_; clear hac; rintro e w13 ⟨Ay, ny, cy, ly, rfl, hly, hao⟩; obtain rfl : ny = 0 := (acts_zero hly hao.at_.len); have hR13 := HR12.out.below hao.bel; obtain ⟨hx13, -, -⟩ := HBY.out _ hR13.bel; have HBC13 := Lib.hid (And.intro hx13.c0 (And.intro hx13.c1 hx13.c2)); have HR13 := Lib.hid hR13; simp only at HBC13; clear hx13 hR13 hao hly))
    go_wp2_with (fail)
    go_ret
    exact ⟨rfl, (HBY.out _ HR13.out.bel).2.1⟩
end Go.Proofs.YtibndaianhlcaaaGreatDoor
namespace Go.Proofs.YtibndaianhlcaaaGreatDoor
open Go.ChangeShapes Go.WideShapes
set_option linter.unusedVariables false
set_option linter.unusedSimpArgs false

namespace Bulk
theorem one_le {H : Type} (d : DataW H) : 1 ≤ Rows.uptoBulk d := by
  cases d with
  | lit l => cases l <;> simp [Rows.uptoBulk]
  | nil => simp [Rows.uptoBulk]
  | ptr d => simp [Rows.uptoBulk]
  | slice elems spare => simp [Rows.uptoBulk]
  | agg parts => simp [Rows.uptoBulk]
  | iface t d => simp [Rows.uptoBulk]
  | map entries => simp [Rows.uptoBulk]
  | held h => simp [Rows.uptoBulk]
theorem part_le {H : Type} {d : DataW H} {l : List (DataW H)} (h : d ∈ l) : Rows.uptoBulk d ≤ Rows.uptoBulkAll l := by
  induction l with
  | nil => cases h
  | cons x r ih =>
    simp only [Rows.uptoBulkAll]
    cases List.mem_cons.1 h with
    | inl e => subst e; omega
    | inr e => have := ih e; omega
theorem length_le {H : Type} (l : List (DataW H)) : l.length ≤ Rows.uptoBulkAll l := by
  induction l with
  | nil => simp [Rows.uptoBulkAll]
  | cons x r ih => have := one_le x; simp only [Rows.uptoBulkAll, List.length_cons]; omega
theorem slice_elems {H : Type} (elems spare : List (DataW H)) : Rows.uptoBulkAll elems + 1 ≤ Rows.uptoBulk (.slice elems spare) := by
  simp only [Rows.uptoBulk]
  omega
theorem agg {H : Type} (l : List (DataW H)) : Rows.uptoBulkAll l + 1 = Rows.uptoBulk (.agg l) := by simp only [Rows.uptoBulk]
theorem string_eq {H : Type} (bytes : List UInt8) : Rows.uptoBulk (DataW.lit (H := H) (.string bytes)) = bytes.length + 1 := by
  simp [Rows.uptoBulk]
theorem bound {H : Type} {l : List (DataW H)} (hk : Rows.uptoSmall H l = true) : Rows.uptoBulkAll l ≤ 1048576 := by
  simpa [Rows.uptoSmall] using hk
theorem slice_spare {H : Type} (elems spare : List (DataW H)) : elems.length + spare.length + 1 ≤ Rows.uptoBulk (.slice elems spare) := by
  have h1 := length_le elems
  have h2 := length_le spare
  simp only [Rows.uptoBulk]
  omega
end Bulk
end Go.Proofs.YtibndaianhlcaaaGreatDoor
namespace Go.Proofs.YtibndaianhlcaaaGreatDoor
open Go.RowKit Go.ChangeShapes Go.WideShapes Go.Deep
open Go.ChangeMaps (open_string)
set_option linter.unusedVariables false
set_option linter.unusedSimpArgs false

section
variable {H : Type} {enc : TypeId × Value → H} {W : World}
/-- A value of type e lies in cells as g says of one that is Q. -/
def Elem (enc : TypeId × Value → H) (W : World) (e : TypeId) {α : Type} (g : α → List Value) (Q : α → Prop) : Prop :=
  ∀ (fuel : Nat) (cs : List Value) (y : DataW H × List MemPlace), DataW.trod enc Tryz.prog W 0 (fun _ => true) true fuel e cs = some y → Rows.uptoBulk y.1 ≤ 1048576 → ∃ x, cs = g x ∧ Q x
theorem open_list {α : Type} [Inhabited α] {t e : TypeId} {sz : Nat} {g : α → List Value} {Q : α → Prop} (ht : Tryz.prog.underlying t = some (.slice e)) (hC : Tryz.prog.cellsOf e = sz) (hpos : 0 < sz) (hg : ∀ x, (g x).length = sz) (hel : Elem enc W e g Q)
    {fuel : Nat} {cs : List Value} {y : DataW H × List MemPlace} (k : DataW.trod enc Tryz.prog W 0 (fun _ => true) true fuel t cs = some y) (hbk : Rows.uptoBulk y.1 ≤ 1048576) :
    ∃ A n c, ∃ l : List α, cs = [.slice A n c] ∧ Slc W W.heap.size sz A n c (l.flatMap g) ∧ l.length = n ∧ (∀ x ∈ l, Q x) ∧ n ≤ 1048576 := by
  rcases open_slice ht k with ⟨hcs, hx⟩ | ⟨x, len, cap, m, n, D, Pl, hcs, _, hl, hm, hmm, hx, hi⟩
  · exact ⟨none, 0, 0, [], hcs, ⟨by simp, Nat.le_refl _, Nat.zero_le _, fun h => absurd h (by decide)⟩, rfl, (fun _ h => by cases h), Nat.zero_le _⟩
  · subst hcs
    simp only [if_true] at hmm
    subst hmm
    have hb1 : Rows.uptoBulkAll ((List.range len).map D) ≤ 1048576 := by
      rw [hx] at hbk
      have := Bulk.slice_elems ((List.range len).map D) ((List.range (m - len)).map fun j => D (len + j))
      simp only at hbk
      omega
    have hlen : len ≤ 1048576 := by
      have := Bulk.length_le ((List.range len).map D)
      simp at this
      omega
    have key : ∀ i, ∃ o : α, i < len → (∀ j u, (g o)[j]? = some u → W.cell? (x.add (i * sz + j)) = some u) ∧ Q o := by
      intro i
      by_cases hi' : i < len
      · obtain ⟨cs', hc, ht'⟩ := hi i (by omega)
        rw [hC] at hc
        obtain ⟨_, hcl, hat⟩ := World.cells?_some hc
        have hm2 : D i ∈ (List.range len).map D := List.mem_map.2 ⟨i, List.mem_range.2 hi', rfl⟩
        have q2 := Bulk.part_le hm2
        obtain ⟨o, ho, hq⟩ := hel n cs' (D i, Pl i) ht' (by show Rows.uptoBulk (D i) ≤ 1048576; omega)
        refine ⟨o, fun _ => ⟨fun j u hu => ?_, hq⟩⟩
        have hj : j < sz := by
          rcases Nat.lt_or_ge j sz with h | h
          · exact h
          · rw [List.getElem?_eq_none (by rw [hg]; exact h)] at hu; cases hu
        have h1 := hat j hj
        rw [ho, hu] at h1
        rw [← Go.Deep.add_add]
        exact h1
      · exact ⟨default, fun h => absurd h hi'⟩
    obtain ⟨f, hf⟩ := Classical.axiomOfChoice key
    refine ⟨some x, len, _, (List.range len).map f, rfl, ?_, by simp, fun o ho => ?_, hlen⟩
    · rcases Nat.eq_zero_or_pos len with h0 | h0
      · subst h0
        exact ⟨by simp, hl, hm, fun h => absurd h (by decide)⟩
      · have hg0 : ∃ u, (g (f 0))[0]? = some u := ⟨_, List.getElem?_eq_getElem (by rw [hg]; exact hpos)⟩
        obtain ⟨u0, hu0⟩ := hg0
        have h1 := (hf 0 h0).1 0 _ hu0
        have hs : x.spot = none := by simpa [Addr.add] using World.cell?_spot h1
        have hblk : x.block < W.heap.size := by have := World.block_lt_of_cell? _ _ h1; simpa [block_add] using this
        obtain ⟨b, off, sp⟩ := x
        simp only at hs hblk
        subst hs
        refine slc_of_elems g _ (fun o _ => hg o) (by simp) hl hm hblk (fun i hi j u hu => ?_)
        have hi' : i < len := by simpa using hi
        have := (hf i hi').1 j u (by simpa using hu)
        rwa [addr_of_add] at this
    · obtain ⟨i, hi, rfl⟩ := List.mem_map.1 ho
      exact (hf i (List.mem_range.1 hi)).2
theorem elem_bool : Elem enc W 4 (fun b : Bool => [bl b]) (fun _ => True) := fun fuel cs y h _ => by
  obtain ⟨b, h1, _⟩ := DataW.trod_bool Tryz.underlying4 h
  exact ⟨b, h1, trivial⟩
theorem elem_int : Elem enc W 3 (fun x : Int => [.int .i64 x]) (fun x => -9223372036854775808 ≤ x ∧ x ≤ 9223372036854775807) := fun fuel cs y h _ => by
  obtain ⟨b, h1, _, hw⟩ := DataW.trod_int Tryz.underlying3 h
  exact ⟨b, h1, int_wf hw⟩
theorem elem_txt : Elem enc W 9 (fun s : Txt => [encStr s]) (fun s => s.length ≤ 1048576) := fun fuel cs y h hb => by
  obtain ⟨s, h1, hy, _⟩ := DataW.trod_string Tryz.underlying9 h
  rw [hy, Bulk.string_eq] at hb
  refine ⟨s.data.toList, h1, ?_⟩
  omega
theorem map_flat {α : Type} (f : α → Value) (l : List α) : l.flatMap (fun x => [f x]) = l.map f := by
  induction l with
  | nil => rfl
  | cons a l ih => rw [List.flatMap_cons, ih]; rfl
/-- Parts of a struct. -/
theorem agg_part {xs : List (DataW H × List MemPlace)} {y : DataW H × List MemPlace} (hy : y = (.agg (xs.map (·.1)), xs.flatMap (·.2))) (hb : Rows.uptoBulk y.1 ≤ 1048576) {i : Nat} {z : DataW H × List MemPlace} (hz : xs[i]? = some z) : Rows.uptoBulk z.1 ≤ 1048576 := by
  subst hy
  have h1 := Bulk.part_le (List.mem_map.2 ⟨z, List.mem_of_getElem? hz, rfl⟩ : z.1 ∈ xs.map (·.1))
  have h2 := Bulk.agg (xs.map (·.1))
  simp only at hb
  omega
theorem cells_parts4 {cs : List Value} {a b c d : Value} (hl : cs.length = 4) (h0 : (cs.drop 0).take 1 = [a]) (h1 : (cs.drop 1).take 1 = [b]) (h2 : (cs.drop 2).take 1 = [c]) (h3 : (cs.drop 3).take 1 = [d]) : cs = [a, b, c, d] := by
  match cs, hl with
  | [x, y, z, t], _ => simp at h0 h1 h2 h3; subst h0 h1 h2 h3; rfl
theorem cells_parts3 {cs : List Value} {a b c : Value} (hl : cs.length = 3) (h0 : (cs.drop 0).take 1 = [a]) (h1 : (cs.drop 1).take 1 = [b]) (h2 : (cs.drop 2).take 1 = [c]) : cs = [a, b, c] := by
  match cs, hl with
  | [x, y, z], _ => simp at h0 h1 h2; subst h0 h1 h2; rfl
instance : Inhabited SV := ⟨⟨[], [], [], none, 0, 0, [], none, 0, 0⟩⟩
instance : Inhabited EV := ⟨⟨[], 0, [], none, 0, 0⟩⟩
def unitQ (W : World) (u : SV) : Prop := u.name.length ≤ 1048576 ∧ u.start.length ≤ 1048576 ∧ Slc W W.heap.size 1 u.A u.n u.c (u.req.map encStr) ∧ Slc W W.heap.size 1 u.A2 u.n2 u.c2 (u.aft.map encStr) ∧ (∀ t ∈ u.req ++ u.aft, t.length ≤ 1048576) ∧ u.n ≤ 1048576 ∧ u.n2 ≤ 1048576
theorem cells1_string : Tryz.prog.cellsOf 9 = 1 := by kernel_rfl
theorem cells1_texts : Tryz.prog.cellsOf 23 = 1 := by kernel_rfl
theorem cells1_bytes : Tryz.prog.cellsOf 33 = 1 := by kernel_rfl
theorem cells1_int : Tryz.prog.cellsOf 3 = 1 := by kernel_rfl
theorem cells3_entry : Tryz.prog.cellsOf 35 = 3 := by kernel_rfl
theorem cells4_unit : Tryz.prog.cellsOf 59 = 4 := by kernel_rfl
theorem open_txts {fuel : Nat} {cs : List Value} {y : DataW H × List MemPlace} (k : DataW.trod enc Tryz.prog W 0 (fun _ => true) true fuel 23 cs = some y) (hb : Rows.uptoBulk y.1 ≤ 1048576) :
    ∃ A n c, ∃ l : List Txt, cs = [.slice A n c] ∧ Slc W W.heap.size 1 A n c (l.map encStr) ∧ (∀ s ∈ l, s.length ≤ 1048576) ∧ n ≤ 1048576 := by
  obtain ⟨A, n, c, l, h1, h2, _, h4, h5⟩ := open_list (α := Txt) Tryz.underlying23 cells1_string (by decide) (fun _ => rfl) elem_txt k hb
  exact ⟨A, n, c, l, h1, by rwa [map_flat] at h2, h4, h5⟩
set_option maxRecDepth 100000 in
theorem elem_unit : Elem enc W 59 svCells (unitQ W) := fun fuel cs y h hb => by
  obtain ⟨xs, n, _, hy, hl, hxl, hf⟩ := DataW.trod_struct Tryz.underlying59 h
  rw [cells4_unit] at hl
  have f0 : DataW.trod enc Tryz.prog W 0 (fun _ => true) true n 9 ((cs.drop 0).take (Tryz.prog.cellsOf 9)) = xs[0]? := hf 0 _ rfl
  have f1 : DataW.trod enc Tryz.prog W 0 (fun _ => true) true n 9 ((cs.drop 1).take (Tryz.prog.cellsOf 9)) = xs[1]? := hf 1 _ rfl
  have f2 : DataW.trod enc Tryz.prog W 0 (fun _ => true) true n 23 ((cs.drop 2).take (Tryz.prog.cellsOf 23)) = xs[2]? := hf 2 _ rfl
  have f3 : DataW.trod enc Tryz.prog W 0 (fun _ => true) true n 23 ((cs.drop 3).take (Tryz.prog.cellsOf 23)) = xs[3]? := hf 3 _ rfl
  rw [cells1_string] at f0 f1
  rw [cells1_texts] at f2 f3
  have hx4 : xs.length = 4 := hxl
  have e : ∀ i, i < 4 → ∃ z, xs[i]? = some z := fun i hi => ⟨_, List.getElem?_eq_getElem (by omega)⟩
  obtain ⟨z0, e0⟩ := e 0 (by decide)
  obtain ⟨z1, e1⟩ := e 1 (by decide)
  obtain ⟨z2, e2⟩ := e 2 (by decide)
  obtain ⟨z3, e3⟩ := e 3 (by decide)
  obtain ⟨s0, h0, q0⟩ := elem_txt n _ z0 (f0.trans e0) (agg_part hy hb e0)
  obtain ⟨s1, h1, q1⟩ := elem_txt n _ z1 (f1.trans e1) (agg_part hy hb e1)
  obtain ⟨A, m, c, l, h2, S2, q2, m2⟩ := open_txts (f2.trans e2) (agg_part hy hb e2)
  obtain ⟨A', m', c', l', h3, S3, q3, m3⟩ := open_txts (f3.trans e3) (agg_part hy hb e3)
  refine ⟨⟨s0, s1, l, A, m, c, l', A', m', c'⟩, cells_parts4 hl h0 h1 h2 h3, q0, q1, S2, S3, fun t ht => ?_, m2, m3⟩
  rcases List.mem_append.1 ht with h | h
  · exact q2 t h
  · exact q3 t h
def entQ (W : World) (e : EV) : Prop := e.path.length ≤ 1048576 ∧ e.data.length ≤ 1048576 ∧ Slc W W.heap.size 1 e.A e.n e.c (e.data.map bv) ∧ (-9223372036854775808 ≤ e.kind ∧ e.kind ≤ 9223372036854775807)
theorem bytes_le {n : Nat} {d : DataW H} (h : n = 0 ∨ ∃ elems spare, d = .slice elems spare ∧ n ≤ elems.length + spare.length) (hb : Rows.uptoBulk d ≤ 1048576) : n ≤ 1048576 := by
  rcases h with rfl | ⟨elems, spare, rfl, h⟩
  · omega
  · have := Bulk.slice_spare elems spare
    omega
set_option maxRecDepth 100000 in
theorem elem_entry : Elem enc W 35 evCells (entQ W) := fun fuel cs y h hb => by
  obtain ⟨xs, n, _, hy, hl, hxl, hf⟩ := DataW.trod_struct Tryz.underlying35 h
  rw [cells3_entry] at hl
  have f0 : DataW.trod enc Tryz.prog W 0 (fun _ => true) true n 9 ((cs.drop 0).take (Tryz.prog.cellsOf 9)) = xs[0]? := hf 0 _ rfl
  have f1 : DataW.trod enc Tryz.prog W 0 (fun _ => true) true n 3 ((cs.drop 1).take (Tryz.prog.cellsOf 3)) = xs[1]? := hf 1 _ rfl
  have f2 : DataW.trod enc Tryz.prog W 0 (fun _ => true) true n 33 ((cs.drop 2).take (Tryz.prog.cellsOf 33)) = xs[2]? := hf 2 _ rfl
  rw [cells1_string] at f0
  rw [cells1_int] at f1
  rw [cells1_bytes] at f2
  have hx3 : xs.length = 3 := hxl
  have e : ∀ i, i < 3 → ∃ z, xs[i]? = some z := fun i hi => ⟨_, List.getElem?_eq_getElem (by omega)⟩
  obtain ⟨z0, e0⟩ := e 0 (by decide)
  obtain ⟨z1, e1⟩ := e 1 (by decide)
  obtain ⟨z2, e2⟩ := e 2 (by decide)
  obtain ⟨s0, h0, q0⟩ := elem_txt n _ z0 (f0.trans e0) (agg_part hy hb e0)
  obtain ⟨s1, h1, q1⟩ := elem_int n _ z1 (f1.trans e1) (agg_part hy hb e1)
  have hc2 : ∃ v, (cs.drop 2).take 1 = [v] := by
    match cs, hl with
    | [x, y, z], _ => exact ⟨z, rfl⟩
  obtain ⟨v2, hv2⟩ := hc2
  rw [hv2] at f2
  obtain ⟨A, m, c, l, rfl, S2, q2⟩ := open_bytes_cells ⟨n, f2.trans e2⟩
  have hm := bytes_le q2 (agg_part hy hb e2)
  have hlm : l.length = m := by have := S2.len; simpa using this
  exact ⟨⟨s0, s1, l, A, m, c⟩, cells_parts3 hl h0 h1 hv2, q0, by show l.length ≤ _; omega, S2, q1⟩
end
end Go.Proofs.YtibndaianhlcaaaGreatDoor
namespace Go.Proofs.YtibndaianhlcaaaGreatDoor
open Go.RowKit Go.ChangeShapes Go.WideShapes Go.Deep
set_option linter.unusedVariables false
set_option linter.unusedSimpArgs false

section
variable {H : Type} {enc : TypeId × Value → H} {W : World}
instance : Inhabited AV := ⟨⟨0, [], default, default⟩⟩
def actQ (W : World) (a : AV) : Prop := a.name.length ≤ 1048576 ∧ entQ W a.file ∧ unitQ W a.unit
theorem cells9_act : Tryz.prog.cellsOf 61 = 9 := by kernel_rfl
theorem cells_partsA {cs : List Value} {a b : Value} {e : EV} {u : SV} (hl : cs.length = 9) (h0 : (cs.drop 0).take 1 = [a]) (h1 : (cs.drop 1).take 1 = [b]) (h2 : (cs.drop 2).take 3 = evCells e) (h3 : (cs.drop 5).take 4 = svCells u) : cs = a :: b :: (evCells e ++ svCells u) := by
  match cs, hl with
  | [x0, x1, x2, x3, x4, x5, x6, x7, x8], _ => simp at h0 h1 h2 h3; rw [← h2, ← h3, h0, h1]; rfl
set_option maxRecDepth 100000 in
theorem elem_act : Elem enc W 61 avCells (actQ W) := fun fuel cs y h hb => by
  obtain ⟨xs, n, _, hy, hl, hxl, hf⟩ := DataW.trod_struct Tryz.underlying61 h
  rw [cells9_act] at hl
  have f0 : DataW.trod enc Tryz.prog W 0 (fun _ => true) true n 3 ((cs.drop 0).take (Tryz.prog.cellsOf 3)) = xs[0]? := hf 0 _ rfl
  have f1 : DataW.trod enc Tryz.prog W 0 (fun _ => true) true n 9 ((cs.drop 1).take (Tryz.prog.cellsOf 9)) = xs[1]? := hf 1 _ rfl
  have f2 : DataW.trod enc Tryz.prog W 0 (fun _ => true) true n 35 ((cs.drop 2).take (Tryz.prog.cellsOf 35)) = xs[2]? := hf 2 _ rfl
  have f3 : DataW.trod enc Tryz.prog W 0 (fun _ => true) true n 59 ((cs.drop 5).take (Tryz.prog.cellsOf 59)) = xs[3]? := hf 3 _ rfl
  rw [cells1_int] at f0
  rw [cells1_string] at f1
  rw [cells3_entry] at f2
  rw [cells4_unit] at f3
  have hx4 : xs.length = 4 := hxl
  have e : ∀ i, i < 4 → ∃ z, xs[i]? = some z := fun i hi => ⟨_, List.getElem?_eq_getElem (by omega)⟩
  obtain ⟨z0, e0⟩ := e 0 (by decide)
  obtain ⟨z1, e1⟩ := e 1 (by decide)
  obtain ⟨z2, e2⟩ := e 2 (by decide)
  obtain ⟨z3, e3⟩ := e 3 (by decide)
  obtain ⟨s0, h0, q0⟩ := elem_int n _ z0 (f0.trans e0) (agg_part hy hb e0)
  obtain ⟨s1, h1, q1⟩ := elem_txt n _ z1 (f1.trans e1) (agg_part hy hb e1)
  obtain ⟨x2, h2, q2⟩ := elem_entry n _ z2 (f2.trans e2) (agg_part hy hb e2)
  obtain ⟨x3, h3, q3⟩ := elem_unit n _ z3 (f3.trans e3) (agg_part hy hb e3)
  exact ⟨⟨s0, s1, x2, x3⟩, cells_partsA hl h0 h1 h2 h3, q1, q2, q3⟩
theorem actQ.small {a : AV} (h : actQ W a) : SmallA a := by
  obtain ⟨h1, ⟨e1, e2, e3, _⟩, u1, u2, u3, u4, u5, u6, u7⟩ := h
  have hn : a.file.data.length = a.file.n := by have := e3.len; simpa using this
  exact ⟨⟨by omega, by omega, by omega⟩, by omega, by omega, by omega, fun t ht => by
    rcases List.mem_cons.1 ht with h | h
    · rw [h]; omega
    · have := u5 t h; omega⟩
theorem open_acts_cells {fuel : Nat} {cs : List Value} {y : DataW H × List MemPlace} (k : DataW.trod enc Tryz.prog W 0 (fun _ => true) true fuel 40 cs = some y) (hb : Rows.uptoBulk y.1 ≤ 1048576) :
    ∃ A n c, ∃ l : List AV, cs = [.slice A n c] ∧ ActsAt W W.heap.size A n c l ∧ (∀ a ∈ l, SmallA a) ∧ n ≤ 1048576 := by
  obtain ⟨A, n, c, l, h1, h2, h3, h4, h5⟩ := open_list (α := AV) Tryz.underlying40 cells9_act (by decide) avCells_length elem_act k hb
  exact ⟨A, n, c, l, h1, ⟨h2, h3, fun a ha => ⟨(h4 a ha).2.1.2.2.1, (h4 a ha).2.2.2.2.1, (h4 a ha).2.2.2.2.2.1⟩⟩, fun a ha => (h4 a ha).small, h5⟩
set_option maxRecDepth 100000 in
theorem open_acts {base : Nat} {v : Value} {d : DataW H} {p : List MemPlace} (o : Value.okWide Tryz.prog W .any base 40 v) (k : DataW.Trod enc Tryz.prog W 0 (fun _ => true) true 40 v d p) (hb : Rows.uptoBulk d ≤ 1048576) :
    ∃ A n c, ∃ l : List AV, v = .slice A n c ∧ ActsAt W W.heap.size A n c l ∧ (∀ a ∈ l, SmallA a) ∧ n ≤ 1048576 := by
  obtain ⟨a0, len, cap, rfl⟩ := okWide_slice Tryz.underlying40 o
  obtain ⟨fuel, hf⟩ := k
  obtain ⟨A, n, c, l, hcs, r⟩ := open_acts_cells hf hb
  simp [Value.cells] at hcs
  obtain ⟨rfl, rfl, rfl⟩ := hcs
  exact ⟨_, _, _, l, rfl, r⟩
set_option maxRecDepth 100000 in
theorem open_bools {base : Nat} {v : Value} {d : DataW H} {p : List MemPlace} (o : Value.okWide Tryz.prog W .any base 41 v) (k : DataW.Trod enc Tryz.prog W 0 (fun _ => true) true 41 v d p) (hb : Rows.uptoBulk d ≤ 1048576) :
    ∃ A n c, ∃ l : List Bool, v = .slice A n c ∧ Slc W W.heap.size 1 A n c (l.map bl) ∧ n ≤ 1048576 := by
  obtain ⟨a0, len, cap, rfl⟩ := okWide_slice Tryz.underlying41 o
  obtain ⟨fuel, hf⟩ := k
  obtain ⟨A, n, c, l, hcs, h2, h3, h4, h5⟩ := open_list (α := Bool) Tryz.underlying41 (show Tryz.prog.cellsOf 4 = 1 by kernel_rfl) (by decide) (fun _ => rfl) elem_bool hf hb
  simp [Value.cells] at hcs
  obtain ⟨rfl, rfl, rfl⟩ := hcs
  exact ⟨_, _, _, l, rfl, by rwa [map_flat] at h2, h5⟩
end
end Go.Proofs.YtibndaianhlcaaaGreatDoor
namespace Go.Proofs.YtibndaianhlcaaaGreatDoor
open Go.RowKit Go.ChangeShapes Go.WideShapes
set_option linter.unusedVariables false
set_option linter.unusedSimpArgs false

section
variable {H : Type} {enc : TypeId × Value → H} {W : World}
theorem unitQ.small {u : SV} (h : unitQ W u) : SmallU u := ⟨h.1, h.2.1, h.2.2.2.2.1, h.2.2.2.2.2.1, h.2.2.2.2.2.2⟩
theorem open_ents21 {fuel : Nat} {v : Value} {y : DataW H × List MemPlace} (k : DataW.trod enc Tryz.prog W 0 (fun _ => true) true fuel 22 [v] = some y) (hb : Rows.uptoBulk y.1 ≤ 1048576) :
    ∃ A n c, ∃ l : List EV, v = .slice A n c ∧ EntsAt W W.heap.size A n c l ∧ (∀ e ∈ l, e.path.length ≤ 1048576 ∧ e.data.length ≤ 1048576) ∧ n ≤ 1048576 := by
  obtain ⟨A, n, c, l, h1, h2, h3, h4, h5⟩ := open_list (α := EV) Tryz.underlying22 cells3_entry (by decide) evCells_length elem_entry k hb
  injection h1 with h1 _
  exact ⟨A, n, c, l, h1, ⟨h2, h3, fun e he => (h4 e he).2.2.1⟩, fun e he => ⟨(h4 e he).1, (h4 e he).2.1⟩, h5⟩
theorem open_units21 {fuel : Nat} {v : Value} {y : DataW H × List MemPlace} (k : DataW.trod enc Tryz.prog W 0 (fun _ => true) true fuel 24 [v] = some y) (hb : Rows.uptoBulk y.1 ≤ 1048576) :
    ∃ A n c, ∃ l : List SV, v = .slice A n c ∧ UnitsAt W W.heap.size A n c l ∧ (∀ u ∈ l, SmallU u) ∧ n ≤ 1048576 := by
  obtain ⟨A, n, c, l, h1, h2, h3, h4, h5⟩ := open_list (α := SV) Tryz.underlying24 cells4_unit (by decide) svCells_length elem_unit k hb
  injection h1 with h1 _
  exact ⟨A, n, c, l, h1, ⟨h2, h3, fun u hu => (h4 u hu).2.2.1, fun u hu => (h4 u hu).2.2.2.1⟩, fun u hu => unitQ.small (h4 u hu), h5⟩
theorem cells3_sys : Tryz.prog.cellsOf 26 = 3 := by kernel_rfl
theorem cells1_ents : Tryz.prog.cellsOf 22 = 1 := by kernel_rfl
theorem cells1_units : Tryz.prog.cellsOf 24 = 1 := by kernel_rfl
set_option maxRecDepth 100000 in
theorem open_sys {base : Nat} {v : Value} {d : DataW H} {p : List MemPlace} (o : Value.okWide Tryz.prog W .any base 26 v) (k : DataW.Trod enc Tryz.prog W 0 (fun _ => true) true 26 v d p) (hbk : Rows.uptoBulk d ≤ 1048576) :
    ∃ s : OV, v = .agg (ovArr s) ∧ ObsAt W W.heap.size s ∧ SmallO s := by
  obtain ⟨cs, rfl, hsz⟩ := okWide_struct Tryz.underlying26 o
  rw [cells3_sys] at hsz
  obtain ⟨fuel, hf⟩ := k
  obtain ⟨l⟩ := cs
  obtain ⟨a0, a1, a2, rfl⟩ : ∃ a0 a1 a2, l = [a0, a1, a2] := by
    match l, hsz with
    | [a0, a1, a2], _ => exact ⟨a0, a1, a2, rfl⟩
  obtain ⟨xs, n, _, hx, _, hxl, hfl⟩ := DataW.trod_struct Tryz.underlying26 hf
  have f0 : DataW.trod enc Tryz.prog W 0 (fun _ => true) true n 22 (([a0, a1, a2].drop 0).take (Tryz.prog.cellsOf 22)) = xs[0]? := hfl 0 _ rfl
  have f1 : DataW.trod enc Tryz.prog W 0 (fun _ => true) true n 23 (([a0, a1, a2].drop 1).take (Tryz.prog.cellsOf 23)) = xs[1]? := hfl 1 _ rfl
  have f2 : DataW.trod enc Tryz.prog W 0 (fun _ => true) true n 24 (([a0, a1, a2].drop 2).take (Tryz.prog.cellsOf 24)) = xs[2]? := hfl 2 _ rfl
  rw [cells1_ents] at f0
  rw [cells1_texts] at f1
  rw [cells1_units] at f2
  have hxl3 : xs.length = 3 := hxl
  obtain ⟨y0, y1, y2, rfl⟩ : ∃ y0 y1 y2, xs = [y0, y1, y2] := by
    match xs, hxl3 with
    | [y0, y1, y2], _ => exact ⟨y0, y1, y2, rfl⟩
  have g0 : DataW.trod enc Tryz.prog W 0 (fun _ => true) true n 22 [a0] = some y0 := f0
  have g1 : DataW.trod enc Tryz.prog W 0 (fun _ => true) true n 23 [a1] = some y1 := f1
  have g2 : DataW.trod enc Tryz.prog W 0 (fun _ => true) true n 24 [a2] = some y2 := f2
  have q2 : d = .agg ([y0, y1, y2].map (·.1)) := (Prod.mk.inj hx).1
  rw [q2, ← Bulk.agg] at hbk
  have p0 := Bulk.part_le (d := y0.1) (l := [y0, y1, y2].map (·.1)) (by simp)
  have p1 := Bulk.part_le (d := y1.1) (l := [y0, y1, y2].map (·.1)) (by simp)
  have p2 := Bulk.part_le (d := y2.1) (l := [y0, y1, y2].map (·.1)) (by simp)
  obtain ⟨A, m, c, es, rfl, hE, he, hm⟩ := open_ents21 g0 (by omega)
  obtain ⟨A2, m2, c2, us, h1, hU, hu, hm2⟩ := open_txts g1 (by omega)
  obtain ⟨A3, m3, c3, vs, rfl, hV, hv, hm3⟩ := open_units21 g2 (by omega)
  injection h1 with h1 _
  subst h1
  exact ⟨⟨A, m, c, es, A2, m2, c2, us, A3, m3, c3, vs⟩, rfl, ⟨hE, hU, hV⟩, ⟨he, hu, hv, hm, hm2, hm3⟩⟩
end
end Go.Proofs.YtibndaianhlcaaaGreatDoor
namespace Go.Proofs.YtibndaianhlcaaaGreatDoor
open Go.RowKit Go.ChangeShapes Go.WideShapes
set_option linter.unusedVariables false
set_option linter.unusedSimpArgs false

set_option maxRecDepth 100000 in
theorem ActivateReaches_walk {H : Type} {enc : TypeId × Value → H} (W : World) (base : Nat) (v0 v1 : Value) (d0 d1 : DataW H) (p0 p1 : List MemPlace)
    (o0 : Value.okWide Tryz.prog W .any base 40 v0) (o1 : Value.okWide Tryz.prog W .any base 26 v1)
    (h0 : DataW.Trod enc Tryz.prog W 0 (fun _ => true) true 40 v0 d0 p0) (h1 : DataW.Trod enc Tryz.prog W 0 (fun _ => true) true 26 v1 d1 p1)
    (hsz : (DataW.weightsEach Tryz.prog [40, 26] [d0, d1]).all (· ≤ reachBytes) = true) (hk : Rows.uptoSmall H [d0, d1] = true) :
    Calls Tryz.prog 5 #[v0, v1] W fun e w' => e = .returned (.bool true) ∧ Below W.heap.size W w' := by
  have hb := Bulk.bound hk
  have b0 := Nat.le_trans (Bulk.part_le (d := d0) (l := [d0, d1]) (by simp)) hb
  have b1 := Nat.le_trans (Bulk.part_le (d := d1) (l := [d0, d1]) (by simp)) hb
  obtain ⟨A1, n1, c1, acts, rfl, hA, hs, hn1⟩ := open_acts o0 h0 b0
  obtain ⟨s, rfl, hS, hS2⟩ := open_sys o1 h1 b1
  exact reaches21_any hA hs hS hS2
end Go.Proofs.YtibndaianhlcaaaGreatDoor
