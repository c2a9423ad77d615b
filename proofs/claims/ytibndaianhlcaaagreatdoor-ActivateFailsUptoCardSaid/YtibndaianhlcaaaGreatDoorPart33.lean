/- The walk of ActivateReaches. The walk of ActivateFails. How much an argument holds, where it is of bulk at most 1048576. -/
import Derived.Test.YtibndaianhlcaaaGreatDoorPart31
import Derived.Test.YtibndaianhlcaaaGreatDoorPart32
import Derived.Test.YtibndaianhlcaaaGreatDoorRows
import Derived.WideShapes
namespace Go.Proofs.YtibndaianhlcaaaGreatDoor
open Go.RowKit Go.Sort Go.Shelf
set_option linter.unusedVariables false
set_option linter.unusedSimpArgs false

theorem led_good (l : List ActP) : GoodM (ledM l) := by
  unfold ledM
  have h : ∀ (l : List ActP) (s : Mach), GoodM s → GoodM (l.foldl (fun s a => (doM s a).1) s) := by
    intro l
    induction l with
    | nil => exact fun s h => h
    | cons a l ih => exact fun s h => ih _ (doM_good h a)
  exact h l _ good_new
/-- A machine without a plan comes to be the system. -/
theorem to_reached {m : Mach} (hg : GoodM m) (hp : m.plan = []) {s : SysP} (hs : rightS s = true) : (toM m s).2 = 0 ∧ (toM m s).1.sys = s := by
  obtain ⟨-, h⟩ := to_led hg hs
  rcases h with h | h
  · exact ⟨h.1, h.2.1⟩
  · rw [hp] at h
    have : badN [] = 0 := rfl
    omega
def seenO (A : Option Addr) (n c : Nat) (es : List EV) (A2 : Option Addr) (n2 c2 : Nat) (us : List Txt) (A3 : Option Addr) (n3 c3 : Nat) (vs : List SV) : OV := ⟨A, n, c, es, A2, n2, c2, us, A3, n3, c3, vs⟩
theorem same_sys {a b : OV} (h : sysO a = sysO b) : sameO a b = true := by
  unfold sysO at h
  simp only [SysP.mk.injEq] at h
  exact sameO_of h.1 h.2.1 h.2.2
/-- The box of the system, kept. -/
structure BoxR (W : World) (C b : Nat) (o : OV) : Prop where
  c0 : W.cell? ⟨b, 0, none⟩ = some (.slice o.A o.n o.c)
  c1 : W.cell? ⟨b, 1, none⟩ = some (.slice o.A2 o.n2 o.c2)
  c2 : W.cell? ⟨b, 2, none⟩ = some (.slice o.A3 o.n3 o.c3)
  at_ : ObsAt W C o
  le : C ≤ W.heap.size
theorem box_of {w W0 W : World} {o : OV} (hW0 : W0 = w.alloc (.cells (ovArr o) 26)) (ho : ObsAt w w.heap.size o) (hW : Below W0.heap.size W0 W) : BoxR W w.heap.size w.heap.size o ∧ Below w.heap.size w W ∧ w.heap.size < W.heap.size := by
  have hb0 : Below w.heap.size w W0 := by rw [hW0]; exact bel_new _ _
  have hG0 : Blk W0 w.heap.size 26 (ovArr o) := by rw [hW0]; exact Blk.new _ _ _
  have hG := hG0.below hW hG0.lt
  have hb := hb0.trans (hW.mono hb0.size)
  exact ⟨⟨hG.cell 0, hG.cell 1, hG.cell 2, ho.below hb, hb.size⟩, hb, hG.lt⟩
theorem acts_zero {l : List AV} {n : Nat} (h : l.map AV.act = []) (hl : l.length = n) : n = 0 := by
  rw [← hl, List.map_eq_nil_iff.1 h]
  rfl
theorem m_sys (m : Mach) (q : List Bool) : (⟨m.files, m.users, m.units, q⟩ : Mach).sys = m.sys := rfl
theorem ObsK.lift {W : World} {G : Nat → Prop} {o : OV} (h : ObsK W G o) : ObsAt W W.heap.size o := h.at_
set_option maxRecDepth 100000 in
set_option maxHeartbeats 8000000 in
theorem reaches21_any {w : World} {A : Option Addr} {n c : Nat} {acts : List AV} (hl : ActsAt w w.heap.size A n c acts) (hs : ∀ a ∈ acts, SmallA a) {o : OV} (ho : ObsAt w w.heap.size o) (hso : SmallO o) :
    Calls Tryz.prog 5 #[.slice A n c, .agg (ovArr o)] w fun e w' => e = .returned (.bool true) ∧ Below w.heap.size w w' := by
  obtain ⟨W0, hW0⟩ : ∃ W0, W0 = w.alloc (.cells (ovArr o) 26) := ⟨_, rfl⟩
  have hsh := shown21_any W0
  have HBX := Lib.hid (fun (W : World) (hW : Below W0.heap.size W0 W) => box_of hW0 ho hW)
  have H := Lib.hid hl
  have HS := Lib.hid hs
  have HSO := Lib.hid hso
  have HSS := Lib.hid (hso.sys ho)
  obtain ⟨m0, hm0⟩ : ∃ m0, m0 = ledM ((acts.map AV.act).take 60) := ⟨_, rfl⟩
  have HM0 := Lib.hid hm0
  have HNM := Lib.hid (show NamesM m0 by rw [hm0]; exact led_names _ _ names_new (fun a ha => by obtain ⟨x, hx, rfl⟩ := List.mem_map.1 (List.mem_of_mem_take ha); exact (hs x hx).names))
  have HPN := Lib.hid (show m0.plan = [] by rw [hm0]; exact led_plan _ _ rfl)
  have HGD := Lib.hid (show GoodM m0 by rw [hm0]; exact led_good _)
  obtain ⟨p, hp⟩ : ∃ p, p = sysO o := ⟨_, rfl⟩
  have HP := Lib.hid hp
  rw [hW0] at hsh
  obtain ⟨Ao, no, co, eo, Ao2, no2, co2, uo, Ao3, no3, co3, vo⟩ := o
  unfold ovArr at hsh hW0 ⊢
  simp only at hsh hW0 ⊢
  have HW0 := Lib.hid hW0
  clear hl hs ho hso hm0 hp hW0
  obtain ⟨m1, hm1⟩ : ∃ m1, m1 = (toM m0 p).1 := ⟨_, rfl⟩
  obtain ⟨z1, hz1⟩ : ∃ z1, z1 = (toM m0 p).2 := ⟨_, rfl⟩
  have HM1 := Lib.hid hm1
  have HZ1 := Lib.hid hz1
  clear hm1 hz1
  go_enter Tryz.func5, Tryz.ntmps5
  go_upto_region 7 with (first
    | (go_at_call 10; refine hsh.mono ?_; clear hsh; rintro e w1 ⟨rfl, hb1⟩; rw [← HW0.out] at hb1; have HBY := Lib.hid (fun (W : World) (hW : Below w1.heap.size w1 W) => HBX.out W (hb1.trans (hW.mono hb1.size))); obtain ⟨-, hbw, -⟩ := HBX.out w1 hb1; have hled := led21_any (C := w.heap.size) (H.out.below hbw) hbw.size HS.out; rw [← HM0.out] at hled; clear hb1 hbw)
    | (go_at_call 26; refine hled.mono ?_; clear hled; rintro e w2 ⟨rfl, F, B, hR⟩; have hse := hR.seen; have HR2 := Lib.hid hR; clear hR)
    | (go_at_call 25; refine hse.mono ?_; clear hse; rintro e w3 ⟨Aw, nw, cw, ew, Aw2, nw2, cw2, Aw3, nw3, cw3, uw, rfl, hob⟩; have hR4 := (HR2.out.below hob.bel).below (bel_new w3 (.cells #[.slice Aw nw cw, .slice Aw2 nw2 cw2, .slice Aw3 nw3 cw3] 28)); obtain ⟨hx3, -, hwl⟩ := HBY.out w3 (HR2.out.below hob.bel).bel; have k0 := hx3.c0; have k1 := hx3.c1; have k2 := hx3.c2; obtain ⟨hx4, -, -⟩ := HBY.out _ hR4.bel; have hto := to21_any hR4 HNM.out hx4.at_ hx4.le HSO.out; rw [← HP.out] at hto; have HOB := Lib.hid hob; have HR4 := Lib.hid hR4; unfold ovArr at hto; simp only at hto k0 k1 k2; clear hob hR4 hx3 hx4)
    | (go_at_call 27; refine hto.mono ?_; clear hto; rintro e w5 ⟨rfl, F5, h5, st5⟩; obtain ⟨hx5, -, -⟩ := HBY.out _ h5.bel; have l0 := hx5.c0; have l1 := hx5.c1; have l2 := hx5.c2; have hr := right21_any hx5.at_ hx5.le HSO.out; rw [← HP.out] at hr; rw [← HM1.out] at h5; have HR5 := Lib.hid h5; have HST5 := Lib.hid st5; unfold ovArr at hr; simp only at hr l0 l1 l2; rw [← HZ1.out]; clear h5 st5 hx5))
  cases hrt : rightS p with
  | false =>
    have hto0 : toM m0 p = (m0, 70) := by unfold toM; rw [hrt]; rfl
    obtain rfl : z1 = 70 := by rw [HZ1.out, hto0]
    have hmm : m1 = m0 := by rw [HM1.out, hto0]
    subst hmm
    rw [hrt] at hr
    clear hrt hto0
    have HV5 := Lib.hid ((Blk.new w3 28 #[.slice Aw nw cw, .slice Aw2 nw2 cw2, .slice Aw3 nw3 cw3]).step HST5.out (fun hF => by have := HR2.out.lt _ hF; have := HOB.out.bel.size; omega))
    have HK5 := Lib.hid ((HOB.out.kept.below (bel_new w3 (.cells #[.slice Aw nw cw, .slice Aw2 nw2 cw2, .slice Aw3 nw3 cw3] 28))).step HST5.out (fun k hk hF => by have := HR2.out.lt _ hF; have hk := hk.1; omega))
    go_wp2_with (go_at_call 15; refine hr.mono ?_; clear hr; rintro e w6 ⟨rfl, hb6⟩; have HB6 := Lib.hid (hb6.trans (Below.refl _ w6).drew); clear hb6)
    have hse := (HR5.out.below HB6.out).seen
    have HVS := Lib.hid (fun (W : World) (hW : Below w6.drew.heap.size w6.drew W) => show W.cell? ⟨w3.heap.size, 0, none⟩ = some (.slice Aw nw cw) ∧ W.cell? ⟨w3.heap.size, 1, none⟩ = some (.slice Aw2 nw2 cw2) ∧ W.cell? ⟨w3.heap.size, 2, none⟩ = some (.slice Aw3 nw3 cw3) from by
      have h9 := (HV5.out.below HB6.out HV5.out.lt).below hW (Nat.lt_of_lt_of_le HV5.out.lt HB6.out.size)
      exact ⟨h9.cell 0, h9.cell 1, h9.cell 2⟩)
    obtain ⟨v0, v1, v2⟩ := HVS.out _ (Below.refl _ _)
    go_region_held (fun W' => W'.cell? ⟨w3.heap.size, 0, none⟩ = some (.slice Aw nw cw) ∧ W'.cell? ⟨w3.heap.size, 1, none⟩ = some (.slice Aw2 nw2 cw2) ∧ W'.cell? ⟨w3.heap.size, 2, none⟩ = some (.slice Aw3 nw3 cw3)) (first | exact HVS.out _ HB8.out | exact HVS.out _ HB7.out | exact ⟨v0, v1, v2⟩) (first
      | (go_at_call 25; refine hse.mono ?_; clear hse; rintro e w7 ⟨Ax, nx, cx, ex, Ax2, nx2, cx2, Ax3, nx3, cx3, ux, rfl, ho7⟩; have hsm := same20_any ho7.kept.at_ ((HK5.out.below HB6.out).below ho7.bel).at_ (Nat.le_refl _); rw [same_sys ((sys_seen ho7).trans (sys_seen HOB.out).symm)] at hsm; have HB7 := Lib.hid ho7.bel; unfold ovArr at hsm; clear ho7)
      | (go_at_call 24; refine hsm.mono ?_; clear hsm; rintro e w8 ⟨rfl, hb8⟩; have HB8 := Lib.hid (HB7.out.trans (hb8.mono HB7.out.size)); clear hb8))
    go_wp2_with (fail)
    go_ret
    exact ⟨rfl, (HBY.out _ (HR5.out.bel.trans ((HB6.out.trans (HB8.out.mono HB6.out.size)).mono HR5.out.bel.size))).2.1⟩
  | true =>
    obtain ⟨r1, r2⟩ := to_reached HGD.out HPN.out hrt
    obtain rfl : z1 = 0 := by rw [HZ1.out, r1]
    have HSY := Lib.hid (show m1.sys = p by rw [HM1.out, r2])
    have HN1 := Lib.hid (show NamesM m1 by rw [HM1.out]; exact toM_names HNM.out (HP.out ▸ HSS.out))
    have HRT := Lib.hid hrt
    rw [hrt] at hr
    clear hrt r1 r2
    go_wp2_with (go_at_call 15; refine hr.mono ?_; clear hr; rintro e w6 ⟨rfl, hb6⟩; have HB6 := Lib.hid (hb6.trans (Below.refl _ w6).drew); clear hb6)
    have hR6 := HR5.out.below HB6.out
    have hse := hR6.seen
    have HR6 := Lib.hid hR6
    obtain ⟨hx6, -, -⟩ := HBY.out _ hR6.bel
    have y0 := hx6.c0
    have y1 := hx6.c1
    have y2 := hx6.c2
    simp only at y0 y1 y2
    clear hR6 hx6
    go_region_held (fun W' => W'.cell? ⟨w.heap.size, 0, none⟩ = some (.slice Ao no co) ∧ W'.cell? ⟨w.heap.size, 1, none⟩ = some (.slice Ao2 no2 co2) ∧ W'.cell? ⟨w.heap.size, 2, none⟩ = some (.slice Ao3 no3 co3)) (first | exact HBC8.out | exact HBC7.out | exact ⟨y0, y1, y2⟩) (first
      | (go_at_call 25; refine hse.mono ?_; clear hse; rintro e w7 ⟨Ax, nx, cx, ex, Ax2, nx2, cx2, Ax3, nx3, cx3, ux, rfl, ho7⟩; have hR7 := HR6.out.below ho7.bel; obtain ⟨hx7, -, -⟩ := HBY.out _ hR7.bel; have hme := meets21_any ho7.kept.at_ (hx7.at_.more3 hx7.le) (Nat.le_refl _); rw [same_sys ((sys_seen ho7).trans (HSY.out.trans HP.out))] at hme; have HBC7 := Lib.hid (And.intro hx7.c0 (And.intro hx7.c1 hx7.c2)); have HR7 := Lib.hid hR7; unfold ovArr at hme; simp only at hme HBC7; clear ho7 hx7 hR7)
      | (go_at_call 17; refine hme.mono ?_; clear hme; rintro e w8 ⟨rfl, hb8⟩; have hR8 := HR7.out.below hb8; obtain ⟨hx8, -, -⟩ := HBY.out _ hR8.bel; have HBC8 := Lib.hid (And.intro hx8.c0 (And.intro hx8.c1 hx8.c2)); have HR8 := Lib.hid hR8; simp only at HBC8; clear hx8 hR8 hb8))
    have hR9 := HR8.out.below (bel_new w8 (.cells #[.bool true, .bool true, .bool true] 4))
    have hpl := plan_any hR9.mach (B := w8.heap.size + 1) (p := [true, true, true]) ((Blk.new w8 4 #[.bool true, .bool true, .bool true]).slc (sz := 1) (n := 3) (c := 3) (Nat.le_refl _) (Nat.le_refl _) (by decide)) (by simp) (by decide)
    have HR9 := Lib.hid hR9
    clear hR9
    go_wp2_with (first
      | (go_at_call 21; refine hpl.mono ?_; clear hpl; rintro e w10 ⟨rfl, hm10, st10⟩; have hR10 := HR9.out.planned hm10 st10; obtain ⟨hx10, -, -⟩ := HBY.out _ hR10.bel; have u0 := hx10.c0; have u1 := hx10.c1; have u2 := hx10.c2; have hto := to21_any hR10 ⟨HN1.out.files, HN1.out.users, HN1.out.units⟩ hx10.at_ hx10.le HSO.out; rw [← HP.out, to_again HRT.out ((m_sys m1 [true, true, true]).trans HSY.out)] at hto; unfold ovArr ToPost at hto; simp only at hto u0 u1 u2; clear hm10 st10 hR10 hx10)
      | (go_at_call 27; refine hto.mono ?_; clear hto; rintro e w11 ⟨rfl, F11, h11, -⟩; have HR11 := Lib.hid (h11.below (Below.refl _ w11).drew); clear h11))
    have hse := HR11.out.seen
    obtain ⟨hx11, -, -⟩ := HBY.out _ HR11.out.bel
    have y0 := hx11.c0
    have y1 := hx11.c1
    have y2 := hx11.c2
    simp only at y0 y1 y2
    clear hx11
    go_region_held (fun W' => W'.cell? ⟨w.heap.size, 0, none⟩ = some (.slice Ao no co) ∧ W'.cell? ⟨w.heap.size, 1, none⟩ = some (.slice Ao2 no2 co2) ∧ W'.cell? ⟨w.heap.size, 2, none⟩ = some (.slice Ao3 no3 co3)) (first | exact HBC13.out | exact HBC12.out | exact ⟨y0, y1, y2⟩) (first
      | (go_at_call 25; refine hse.mono ?_; clear hse; rintro e w12 ⟨Ax, nx, cx, ex, Ax2, nx2, cx2, Ax3, nx3, cx3, ux, rfl, ho12⟩; have hR12 := HR11.out.below ho12.bel; obtain ⟨hx12, -, -⟩ := HBY.out _ hR12.bel; have hac := acts21_any (o := ⟨Ax, nx, cx, ex, Ax2, nx2, cx2, m1.users, Ax3, nx3, cx3, ux⟩) ho12.kept.at_ (hx12.at_.more3 hx12.le) (Nat.le_refl _) HSO.out (obs_counts HR11.out.good ho12); rw [show sysO ⟨Ax, nx, cx, ex, Ax2, nx2, cx2, m1.users, Ax3, nx3, cx3, ux⟩ = p from (sys_seen ho12).trans ((m_sys m1 [true, true, true]).trans HSY.out), ← HP.out, show actsR p p = [] from (if_pos HRT.out).trans (acts_none p)] at hac; have HBC12 := Lib.hid (And.intro hx12.c0 (And.intro hx12.c1 hx12.c2)); have HR12 := Lib.hid hR12; unfold ovArr at hac; simp only at hac HBC12; clear ho12 hx12 hR12)
      | (go_at_call 28; refine hac.mono ?_; clear hac; rintro e w13 ⟨Ay, ny, cy, ly, rfl, hly, hao⟩; obtain rfl : ny = 0 := (acts_zero hly hao.at_.len); have hR13 := HR12.out.below hao.bel; obtain ⟨hx13, -, -⟩ := HBY.out _ hR13.bel; have HBC13 := Lib.hid (And.intro hx13.c0 (And.intro hx13.c1 hx13.c2)); have HR13 := Lib.hid hR13; simp only at HBC13; clear hx13 hR13 hao hly))
    go_wp2_with (fail)
    go_ret
    exact ⟨rfl, (HBY.out _ HR13.out.bel).2.1⟩
end Go.Proofs.YtibndaianhlcaaaGreatDoor
namespace Go.Proofs.YtibndaianhlcaaaGreatDoor
open Go.RowKit Go.Sort Go.Shelf
set_option linter.unusedVariables false
set_option linter.unusedSimpArgs false

theorem badN_succ (l : List Bool) {k : Nat} (hk : k < l.length) : badN (l.take (k + 1)) = badN (l.take k) + if l[k] = true then 1 else 0 := by
  unfold badN
  rw [List.take_succ_eq_append_getElem hk, List.filter_append, List.length_append]
  cases l[k] <;> rfl
theorem badN_le (l : List Bool) : badN l ≤ l.length := List.length_filter_le _ _
theorem box2_of {w W0 W : World} {o1 o2 : OV} (hW0 : W0 = (w.alloc (.cells (ovArr o1) 26)).alloc (.cells (ovArr o2) 26)) (h1 : ObsAt w w.heap.size o1) (h2 : ObsAt w w.heap.size o2) (hW : Below W0.heap.size W0 W) :
    BoxR W w.heap.size w.heap.size o1 ∧ BoxR W w.heap.size (w.heap.size + 1) o2 ∧ Below w.heap.size w W ∧ w.heap.size + 1 < W.heap.size := by
  have hb0 : Below w.heap.size w W0 := by rw [hW0]; exact (bel_new _ _).alloc (by simp) _
  have hG1 : Blk W0 w.heap.size 26 (ovArr o1) := by rw [hW0]; exact (Blk.new _ _ _).alloc _
  have hG2 : Blk W0 (w.heap.size + 1) 26 (ovArr o2) := by
    rw [hW0]
    have := Blk.new (w.alloc (.cells (ovArr o1) 26)) 26 (ovArr o2)
    rwa [World.size_alloc] at this
  have g1 := hG1.below hW hG1.lt
  have g2 := hG2.below hW hG2.lt
  have hb := hb0.trans (hW.mono hb0.size)
  exact ⟨⟨g1.cell 0, g1.cell 1, g1.cell 2, h1.below hb, hb.size⟩, ⟨g2.cell 0, g2.cell 1, g2.cell 2, h2.below hb, hb.size⟩, hb, g2.lt⟩
theorem slc_via {w a b : World} {B sz : Nat} {A : Option Addr} {n c : Nat} {xs : List Value} (h : Slc a B sz A n c xs) (h1 : Below B w a) (h2 : Below B w b) : Slc b B sz A n c xs :=
  ⟨h.len, h.le, h.cmax, fun hn => by
    obtain ⟨q, off, e, hq, hc⟩ := h.at_ hn
    refine ⟨q, off, e, hq, fun j u hu => ?_⟩
    rw [World.cell?_of_block (w := a) (a := ⟨q, off + j, none⟩) ((h2.block q hq).trans (h1.block q hq).symm)]
    exact hc j u hu⟩
/-- A machine in the law's run. -/
structure FR (w1 W : World) (B g : Nat) (F : Nat → Prop) (m : Mach) : Prop where
  run : MRun w1 B W F g m
  names : NamesM m
theorem FR.to_ {w1 W W' : World} {B g : Nat} {F : Nat → Prop} {m : Mach} {s : SysP} {e : Ending} (h : FR w1 W B g F m) (hs : SmallS s) (hq : ToPost w1 B W F g (toM m s) e W') : e = .returned (.int .i64 (toM m s).2) ∧ ∃ F', FR w1 W' B g F' (toM m s).1 := by
  obtain ⟨h1, F', h2, -⟩ := hq
  exact ⟨h1, F', h2, toM_names h.names hs⟩
theorem FR.plan {w1 W W' : World} {B g : Nat} {F : Nat → Prop} {m : Mach} {p : List Bool} (h : FR w1 W B g F m) (hm : MachAt W' (Fn F W W') g ⟨m.files, m.users, m.units, p⟩) (hst : Step W W' F (Fn F W W')) : FR w1 W' B g (Fn F W W') ⟨m.files, m.users, m.units, p⟩ :=
  ⟨h.run.planned hm hst, h.names.files, h.names.users, h.names.units⟩
section
attribute [local go_sem ↓] slice_mark_bool
set_option maxRecDepth 100000 in
set_option maxHeartbeats 8000000 in
theorem fails21_any {w : World} {A : Option Addr} {n c : Nat} {acts : List AV} (hl : ActsAt w w.heap.size A n c acts) (hs : ∀ a ∈ acts, SmallA a) {o1 o2 : OV} (ho1 : ObsAt w w.heap.size o1) (hso1 : SmallO o1) (ho2 : ObsAt w w.heap.size o2) (hso2 : SmallO o2) {pA : Option Addr} {pn pc : Nat} {pl : List Bool} (hp : Slc w w.heap.size 1 pA pn pc (pl.map bl)) (hpn : pn ≤ 1048576) :
    Calls Tryz.prog 6 #[.slice A n c, .agg (ovArr o1), .agg (ovArr o2), .slice pA pn pc] w fun e w' => e = .returned (.bool true) ∧ Below w.heap.size w w' := by
  obtain ⟨W0, hW0⟩ : ∃ W0, W0 = (w.alloc (.cells (ovArr o1) 26)).alloc (.cells (ovArr o2) 26) := ⟨_, rfl⟩
  have hsh := shown21_any W0
  have HBX := Lib.hid (fun (W : World) (hW : Below W0.heap.size W0 W) => box2_of hW0 ho1 ho2 hW)
  have H := Lib.hid hl
  have HS := Lib.hid hs
  have HSO1 := Lib.hid hso1
  have HSO2 := Lib.hid hso2
  have HSS1 := Lib.hid (hso1.sys ho1)
  have HSS2 := Lib.hid (hso2.sys ho2)
  have HPL := Lib.hid hp
  obtain ⟨m0, hm0⟩ : ∃ m0, m0 = ledM ((acts.map AV.act).take 60) := ⟨_, rfl⟩
  have HM0 := Lib.hid hm0
  have HNM := Lib.hid (show NamesM m0 by rw [hm0]; exact led_names _ _ names_new (fun a ha => by obtain ⟨x, hx, rfl⟩ := List.mem_map.1 (List.mem_of_mem_take ha); exact (hs x hx).names))
  obtain ⟨p1, hp1⟩ : ∃ p1, p1 = sysO o1 := ⟨_, rfl⟩
  obtain ⟨p2, hp2⟩ : ∃ p2, p2 = sysO o2 := ⟨_, rfl⟩
  rw [← hp1] at HSS1
  rw [← hp2] at HSS2
  have HP1 := Lib.hid hp1
  have HP2 := Lib.hid hp2
  rw [hW0] at hsh
  obtain ⟨Ao, no, co, eo, Ao2, no2, co2, uo, Ao3, no3, co3, vo⟩ := o1
  obtain ⟨Bo, qo, do_, fo, Bo2, qo2, do2, xo, Bo3, qo3, do3, yo⟩ := o2
  unfold ovArr at hsh hW0 ⊢
  simp only at hsh hW0 ⊢
  have HW0 := Lib.hid hW0
  clear hl hs ho1 hso1 ho2 hso2 hm0 hp1 hp2 hW0 hp
  go_enter Tryz.func6, Tryz.ntmps6
  go_upto_region 7 with (first
    | (go_at_call 10; refine hsh.mono ?_; clear hsh; rintro e w1 ⟨rfl, hb1⟩; rw [← HW0.out] at hb1; have HBY := Lib.hid (fun (W : World) (hW : Below w1.heap.size w1 W) => HBX.out W (hb1.trans (hW.mono hb1.size))); obtain ⟨-, -, hbw, -⟩ := HBX.out w1 hb1; have hled := led21_any (C := w.heap.size) (H.out.below hbw) hbw.size HS.out; rw [← HM0.out] at hled; clear hb1 hbw)
    | (go_at_call 26; refine hled.mono ?_; clear hled; rintro e w2 ⟨rfl, F, B, hR⟩; obtain ⟨hx, hy, -, hwl⟩ := HBY.out w2 hR.bel; have k0 := hx.c0; have k1 := hx.c1; have k2 := hx.c2; have hr1 := right21_any hx.at_ hx.le HSO1.out; rw [← HP1.out] at hr1; have HR2 := Lib.hid (FR.mk hR HNM.out); unfold ovArr at hr1; simp only at hr1 k0 k1 k2; clear hR hx hy)
    | (go_at_call 15; refine hr1.mono ?_; clear hr1; rintro e w3 ⟨rfl, hb3⟩; have hR3 := HR2.out.run.below hb3; obtain ⟨hx, hy, -, hwl3⟩ := HBY.out w3 hR3.bel; have l0 := hy.c0; have l1 := hy.c1; have l2 := hy.c2; have hr2 := right21_any hy.at_ hy.le HSO2.out; rw [← HP2.out] at hr2; have HR3 := Lib.hid (FR.mk hR3 HNM.out); unfold ovArr at hr2; simp only at hr2 l0 l1 l2; clear hR3 hx hy hb3)
    | (go_at_call 15; refine hr2.mono ?_; clear hr2; rintro e w4 ⟨rfl, hb4⟩; have HR4 := Lib.hid (FR.mk (HR3.out.run.below hb4) HNM.out); clear hb4))
  cases h1 : rightS p1 with
  | false =>
    go_wp2_with (fail)
    go_ret
    exact ⟨rfl, (HBY.out _ HR4.out.run.bel).2.2.1⟩
  | true =>
  cases h2 : rightS p2 with
  | false =>
    go_wp2_with (fail)
    go_ret
    exact ⟨rfl, (HBY.out _ HR4.out.run.bel).2.2.1⟩
  | true =>
  have HT1 := Lib.hid h1
  have HT2 := Lib.hid h2
  clear h1 h2
  go_upto_if 43 with (fail)
  have HB4 := Lib.hid (HBY.out _ HR4.out.run.bel).2.2.1
  go_cut [3] (fun s3 wx => ∃ (A : Option Addr) (n c : Nat) (l : List Bool), s3 = .slice A n c ∧ Slc wx w.heap.size 1 A n c (l.map bl) ∧ n ≤ 40 ∧ l.length = n ∧ Below w4.heap.size w4 wx)
  case first =>
    have hp4 := HPL.out.below HB4.out
    have hlen : pl.length = pn := by have := hp4.len; simpa using this
    by_cases h40 : pn ≤ 40
    · have hd : decide ((40 : Int) < (pn : Int)) = false := decide_eq_false (by omega)
      have HX := Lib.hid (And.intro hp4 hlen)
      clear hp4 hlen
      go_wp2_with (fail)
      go_meet
      case rel => exact ⟨pA, pn, pc, pl, rfl, HX.out.1, h40, HX.out.2, Below.refl _ _⟩
    · have hd : decide ((40 : Int) < (pn : Int)) = true := decide_eq_true (by omega)
      have hle := hp4.le
      have hch := fun (W : World) => cut_low rowT_bool (A := pA) (n := pn) (c := pc) (k := 40) (z := 40) rfl (by omega) W
      obtain ⟨A', e9, hS⟩ := head_slc hp4 (k := 40) (by omega)
      rw [e9] at hch
      have HX := Lib.hid (show Slc w4 w.heap.size 1 A' 40 pc ((pl.take 40).map bl) by rw [List.map_take]; exact hS)
      have HLN := Lib.hid (show (pl.take 40).length = 40 by rw [List.length_take]; omega)
      clear hp4 hlen hS e9
      go_wp2_with (fail)
      go_meet
      case rel => exact ⟨A', 40, pc, pl.take 40, rfl, HX.out, by omega, HLN.out, Below.refl _ _⟩
  case rest =>
  obtain ⟨wa, rfl⟩ : ∃ wa, wa = wc := ⟨_, rfl⟩
  obtain ⟨A', n', c', l, rfl, hS, hn40, hll, hba⟩ := hcut
  have HSL := Lib.hid hS
  have HLL := Lib.hid hll
  have HRA := Lib.hid (FR.mk (HR4.out.run.below hba) HNM.out)
  clear hS hll hba
  go_upto_block 0 with (fail)
  go_cut [13, 14] (fun s13 s14 wx => s13 = .int .i64 (badN l : Int) ∧ Below wa.heap.size wa wx)
  case first =>
    go_wp2_with (fail)
    go_loopw [13, 14] (fun s13 s14 wr => ∃ k : Nat, k ≤ n' ∧ s14 = .int .i64 (k : Int) ∧ s13 = .int .i64 (badN (l.take k) : Int) ∧ Aside (Below wa.heap.size wa wr)) (fun _ s14 _ => n' - (intOf s14).toNat)
    case atStart => exact ⟨0, Nat.zero_le _, rfl, rfl, Below.refl _ _⟩
    case round =>
      obtain ⟨k, hk, rfl, rfl, hb⟩ := hrel
      have hwa : w.heap.size ≤ wa.heap.size := (HBY.out _ HRA.out.run.bel).2.2.1.size
      have hbl9 : badN (l.take k) ≤ 40 := Nat.le_trans (badN_le _) (by rw [List.length_take]; omega)
      by_cases hlt : k < n'
      · obtain ⟨b, off, rfl, hbB, hc⟩ := (HSL.out.below (hb.out.mono hwa)).at_ (by omega)
        have hkl : k < l.length := by rw [HLL.out]; exact hlt
        have c0 := hc k (bl l[k]) (by rw [List.getElem?_map, List.getElem?_eq_getElem hkl]; rfl)
        have HBS := Lib.hid (badN_succ l hkl)
        generalize l[k] = x at *
        unfold bl at c0
        have HBB := Lib.hid hb.out
        clear hc hb
        cases x with
        | true =>
          have HX := Lib.hid (show ((badN (l.take (k + 1)) : Nat) : Int) = (badN (l.take k) : Int) + 1 by rw [HBS.out]; simp)
          clear HBS
          generalize badN (l.take k) = q at *
          go_wp2_with (fail)
          exact ⟨⟨k + 1, by omega, by go_num, by (rw [HX.out]) <;> go_num, HBB.out⟩, by simp [intOf]; omega⟩
        | false =>
          have HX := Lib.hid (show badN (l.take (k + 1)) = badN (l.take k) by rw [HBS.out]; simp)
          clear HBS
          generalize badN (l.take k) = q at *
          go_wp2_with (fail)
          exact ⟨⟨k + 1, by omega, by go_num, by rw [HX.out], HBB.out⟩, by simp [intOf]; omega⟩
      · obtain rfl : k = n' := by omega
        have HX := Lib.hid (show badN (l.take k) = badN l by rw [List.take_of_length_le (by rw [HLL.out]; exact Nat.le_refl _)])
        have HBB := Lib.hid hb.out
        clear hb
        go_wp2_with (fail)
        go_meet
        case rel => exact ⟨by rw [HX.out], HBB.out⟩
  case rest =>
  obtain ⟨wb, rfl⟩ : ∃ wb, wb = wc := ⟨_, rfl⟩
  obtain ⟨rfl, hbb⟩ := hcut
  have hwa : w.heap.size ≤ wa.heap.size := (HBY.out _ HRA.out.run.bel).2.2.1.size
  have HRB := Lib.hid (FR.mk (HRA.out.run.below hbb) HNM.out)
  have hSB := HSL.out.below (hbb.mono hwa)
  have hwb : w.heap.size ≤ wb.heap.size := Nat.le_trans hwa hbb.size
  have HSB := Lib.hid hSB
  have hpl := plan_any HRB.out.run.mach hSB hwb (by omega)
  have hf40 : badN l ≤ 40 := Nat.le_trans (badN_le l) (by rw [HLL.out]; exact hn40)
  have HWB := Lib.hid hwb
  obtain ⟨f, hf⟩ : ∃ f, f = badN l := ⟨_, rfl⟩
  have HFF := Lib.hid hf
  rw [← hf] at hf40 ⊢
  clear hbb hSB hwa hwb hf
  go_upto_block 2 with (go_at_call 21; refine hpl.mono ?_; clear hpl; rintro e w7 ⟨rfl, hm7, st7⟩; have HR7 := Lib.hid (HRB.out.plan hm7 st7); have HST7 := Lib.hid st7; clear hm7 st7)
  go_cut [15, 16, 17] (fun s15 s16 s17 wx => ∃ (b : Nat) (F : Nat → Prop) (m : Mach), b ≤ f ∧ s15 = .int .i64 (b : Int) ∧ FR w1 wx B w1.heap.size F m ∧ m.sys = p1)
  case first =>
    go_wp2_with (fail)
    go_loopw [15, 16, 17] (fun s15 s16 s17 wr => ∃ k : Nat, k ≤ f ∧ s15 = .int .i64 (k : Int) ∧ s16 = .int .i64 (k : Int) ∧ Aside (∃ (F : Nat → Prop) (m : Mach), FR w1 wr B w1.heap.size F m ∧ badN m.plan + k ≤ f)) (fun _ s16 _ _ => f + 1 - (intOf s16).toNat)
    case atStart => exact ⟨0, Nat.zero_le _, rfl, rfl, _, _, HR7.out, by show badN l + 0 ≤ f; rw [← HFF.out]; exact Nat.le_refl _⟩
    case round =>
      obtain ⟨k, hk, rfl, rfl, hrel⟩ := hrel
      obtain ⟨F9, m, hR, hbd⟩ := hrel.out
      obtain ⟨hx, -, -, hwl⟩ := HBY.out _ hR.run.bel
      have y0 := hx.c0
      have y1 := hx.c1
      have y2 := hx.c2
      have hto := to21_any hR.run hR.names hx.at_ hx.le HSO1.out
      rw [← HP1.out] at hto
      have HR := Lib.hid hR
      obtain ⟨-, hled9⟩ := to_led hR.run.good HT1.out
      unfold ovArr at hto
      simp only at hto y0 y1 y2
      have hki : (k : Int) ≤ (f : Int) := by omega
      rcases hled9 with ⟨z0, zs, -⟩ | ⟨z0, zb⟩
      · have HZ := Lib.hid z0
        have HZS := Lib.hid zs
        clear z0 zs hx hR hrel hbd
        go_wp2_with (go_at_call 27; refine hto.mono ?_; clear hto; intro e w9 hq; obtain ⟨rfl, F8, hf8⟩ := HR.out.to_ HSS1.out hq; have HF8 := Lib.hid hf8; clear hq hf8; rw [HZ.out])
        go_meet
        case rel => exact ⟨k, F8, _, hk, rfl, HF8.out, HZS.out⟩
      · have HZ := Lib.hid z0
        have hk1 : k + 1 ≤ f := by omega
        have HZB := Lib.hid (show badN (toM m p1).1.plan + (k + 1) ≤ f by omega)
        clear z0 zb hx hR hrel hbd
        go_wp2_with (go_at_call 27; refine hto.mono ?_; clear hto; intro e w9 hq; obtain ⟨rfl, F8, hf8⟩ := HR.out.to_ HSS1.out hq; have HF8 := Lib.hid hf8; clear hq hf8; rw [HZ.out])
        exact ⟨⟨k + 1, hk1, by go_num, by go_num, F8, _, HF8.out, HZB.out⟩, by simp [intOf]; omega⟩
  case rest =>
  obtain ⟨wd, rfl⟩ : ∃ wd, wd = wc := ⟨_, rfl⟩
  obtain ⟨b, F1, m1, hbf, rfl, hf1, hsy⟩ := hcut
  have HF1 := Lib.hid hf1
  have HSY := Lib.hid hsy
  clear hf1 hsy
  have hdb : decide ((f : Int) < (b : Int)) = false := decide_eq_false (by omega)
  have hbf9 : ¬ (f : Int) < (b : Int) := by omega
  have hRD := HF1.out.run.below (Below.refl wd.heap.size wd).drew
  have hse := hRD.seen
  have HRD := Lib.hid hRD
  obtain ⟨hx, -, -, hwl⟩ := HBY.out _ hRD.bel
  have y0 := hx.c0
  have y1 := hx.c1
  have y2 := hx.c2
  simp only at y0 y1 y2
  clear hRD hx
  go_wp2_with (fail)
  go_region_held (fun W' => W'.cell? ⟨w.heap.size, 0, none⟩ = some (.slice Ao no co) ∧ W'.cell? ⟨w.heap.size, 1, none⟩ = some (.slice Ao2 no2 co2) ∧ W'.cell? ⟨w.heap.size, 2, none⟩ = some (.slice Ao3 no3 co3)) (first | exact HBC8.out | exact HBC7.out | exact ⟨y0, y1, y2⟩) (first
    | (go_at_call 25; refine hse.mono ?_; clear hse; rintro e w11 ⟨Ax, nx, cx, ex, Ax2, nx2, cx2, Ax3, nx3, cx3, ux, rfl, ho7⟩; have hR7 := HRD.out.below ho7.bel; obtain ⟨hx7, -, -, -⟩ := HBY.out _ hR7.bel; have hme := meets21_any ho7.kept.at_ (hx7.at_.more3 hx7.le) (Nat.le_refl _); rw [same_sys ((sys_seen ho7).trans (HSY.out.trans HP1.out))] at hme; have HBC7 := Lib.hid (And.intro hx7.c0 (And.intro hx7.c1 hx7.c2)); have HR11 := Lib.hid hR7; unfold ovArr at hme; simp only at hme HBC7; clear ho7 hx7 hR7)
    | (go_at_call 17; refine hme.mono ?_; clear hme; rintro e w12 ⟨rfl, hb8⟩; have hR8 := HR11.out.below hb8; obtain ⟨hx8, -, -, -⟩ := HBY.out _ hR8.bel; have HBC8 := Lib.hid (And.intro hx8.c0 (And.intro hx8.c1 hx8.c2)); have HR12 := Lib.hid (FR.mk hR8 HF1.out.names); simp only at HBC8; clear hx8 hR8 hb8))
  have hw12 := (HBY.out _ HR12.out.run.bel).2.2.1
  have hpl := plan_any HR12.out.run.mach (slc_via HSL.out (HBY.out _ HRA.out.run.bel).2.2.1 hw12) hw12.size (by omega)
  clear hw12
  go_upto_block 4 with (go_at_call 21; refine hpl.mono ?_; clear hpl; rintro e w13 ⟨rfl, hm7, st7⟩; have HR13 := Lib.hid (HR12.out.plan hm7 st7); clear hm7 st7)
  go_cut [18, 19, 20] (fun s18 s19 s20 wx => ∃ (F : Nat → Prop) (m : Mach), FR w1 wx B w1.heap.size F m)
  case first =>
    go_wp2_with (fail)
    go_loopw [18, 19, 20] (fun s18 s19 s20 wr => ∃ k : Nat, k ≤ f + 1 ∧ s18 = .int .i64 (k : Int) ∧ Aside (∃ (F : Nat → Prop) (m : Mach), FR w1 wr B w1.heap.size F m)) (fun s18 _ _ _ => f + 1 - (intOf s18).toNat)
    case atStart => exact ⟨0, Nat.zero_le _, rfl, _, _, HR13.out⟩
    case round =>
      obtain ⟨k, hk, rfl, hrel⟩ := hrel
      obtain ⟨F9, m, hR⟩ := hrel.out
      by_cases hkf : k ≤ f
      · have hki : (k : Int) ≤ (f : Int) := by omega
        obtain ⟨-, hx, -, hwl⟩ := HBY.out _ hR.run.bel
        have y0 := hx.c0
        have y1 := hx.c1
        have y2 := hx.c2
        have hto1 := to21_any hR.run hR.names hx.at_ hx.le HSO2.out
        rw [← HP2.out] at hto1
        have HR := Lib.hid hR
        obtain ⟨hgg, hled9⟩ := to_led hR.run.good HT2.out
        have HL9 := Lib.hid (show (toM m p2).2 = 0 ∨ (toM m p2).2 = 71 from hled9.imp (fun h => h.1) (fun h => h.1))
        obtain ⟨-, hled8⟩ := to_led hgg HT2.out
        have HL8 := Lib.hid (show (toM (toM m p2).1 p2).2 = 0 ∨ (toM (toM m p2).1 p2).2 = 71 from hled8.imp (fun h => h.1) (fun h => h.1))
        obtain ⟨z1, hz1⟩ : ∃ z1, z1 = (toM m p2).2 := ⟨_, rfl⟩
        obtain ⟨z2, hz2⟩ : ∃ z2, z2 = (toM (toM m p2).1 p2).2 := ⟨_, rfl⟩
        have HZ1 := Lib.hid hz1
        have HZ2 := Lib.hid hz2
        have hz1' : z1 = 0 ∨ z1 = 71 := by rw [hz1]; exact HL9.out
        have hz2' : z2 = 0 ∨ z2 = 71 := by rw [hz2]; exact HL8.out
        unfold ovArr at hto1
        simp only at hto1 y0 y1 y2
        clear hx hR hrel hz1 hz2 hgg hled9 hled8
        rcases hz1' with rfl | rfl <;> rcases hz2' with rfl | rfl
        all_goals go_wp2_with (first
          | (go_at_call 27; refine hto1.mono ?_; clear hto1; intro e w14 hq; obtain ⟨rfl, F8, hf8⟩ := HR.out.to_ HSS2.out hq; obtain ⟨-, hx8, -, hwl8⟩ := HBY.out _ hf8.run.bel; have v0 := hx8.c0; have v1 := hx8.c1; have v2 := hx8.c2; have hto2 := to21_any hf8.run hf8.names hx8.at_ hx8.le HSO2.out; rw [← HP2.out] at hto2; have HF8 := Lib.hid hf8; unfold ovArr at hto2; simp only at hto2 v0 v1 v2; clear hq hf8 hx8; rw [← HZ1.out])
          | (go_at_call 27; refine hto2.mono ?_; clear hto2; intro e w15 hq; obtain ⟨rfl, F7, hf7⟩ := HF8.out.to_ HSS2.out hq; have HF7 := Lib.hid hf7; clear hq hf7; rw [← HZ2.out]))
        all_goals first
          | (go_meet; case rel => exact ⟨F7, _, HF7.out⟩)
          | exact ⟨⟨k + 1, by omega, by go_num, F7, _, HF7.out⟩, by simp [intOf]; omega⟩
      · have hki : ¬ (k : Int) ≤ (f : Int) := by omega
        have HR := Lib.hid hR
        clear hR hrel
        go_wp2_with (fail)
        go_meet
        case rel => exact ⟨F9, m, HR.out⟩
  case rest =>
  obtain ⟨we, rfl⟩ : ∃ we, we = wc := ⟨_, rfl⟩
  obtain ⟨F2, m2, hf2⟩ := hcut
  have hpl := plan_any hf2.run.mach (B := we.heap.size) (p := []) (slc_none _ _ _) (Nat.le_refl _) (by decide)
  have HF2 := Lib.hid hf2
  clear hf2
  go_upto_region 40 with (first
    | (go_at_call 21; refine hpl.mono ?_; clear hpl; rintro e w16 ⟨rfl, hm7, st7⟩; have hR16 := HF2.out.plan hm7 st7; obtain ⟨-, hx8, -, hwl8⟩ := HBY.out _ hR16.run.bel; have v0 := hx8.c0; have v1 := hx8.c1; have v2 := hx8.c2; have hto := to21_any hR16.run hR16.names hx8.at_ hx8.le HSO2.out; rw [← HP2.out] at hto; have HR16 := Lib.hid hR16; unfold ovArr at hto; simp only at hto v0 v1 v2; clear hm7 st7 hR16 hx8)
    | (go_at_call 27; refine hto.mono ?_; clear hto; intro e w17 hq; obtain ⟨r1, r2⟩ := to_reached HR16.out.run.good rfl HT2.out; obtain ⟨rfl, F7, hf7⟩ := HR16.out.to_ HSS2.out hq; have HF7 := Lib.hid hf7; have HSY2 := Lib.hid r2; rw [r1]; clear hq hf7 r1 r2))
  have hRD2 := HF7.out.run.below (Below.refl w17.heap.size w17).drew
  have hse := hRD2.seen
  have HRD2 := Lib.hid hRD2
  obtain ⟨-, hx, -, hwl2⟩ := HBY.out _ hRD2.bel
  have y0 := hx.c0
  have y1 := hx.c1
  have y2 := hx.c2
  simp only at y0 y1 y2
  clear hRD2 hx
  go_wp2_with (fail)
  go_region_held (fun W' => W'.cell? ⟨w.heap.size + 1, 0, none⟩ = some (.slice Bo qo do_) ∧ W'.cell? ⟨w.heap.size + 1, 1, none⟩ = some (.slice Bo2 qo2 do2) ∧ W'.cell? ⟨w.heap.size + 1, 2, none⟩ = some (.slice Bo3 qo3 do3)) (first | exact HBC19.out | exact HBC18.out | exact ⟨y0, y1, y2⟩) (first
    | (go_at_call 25; refine hse.mono ?_; clear hse; rintro e w18 ⟨Ax, nx, cx, ex, Ax2, nx2, cx2, Ax3, nx3, cx3, ux, rfl, ho7⟩; have hR7 := HRD2.out.below ho7.bel; obtain ⟨-, hx7, -, -⟩ := HBY.out _ hR7.bel; have hme := meets21_any ho7.kept.at_ (hx7.at_.more3 hx7.le) (Nat.le_refl _); rw [same_sys ((sys_seen ho7).trans (HSY2.out.trans HP2.out))] at hme; have HBC18 := Lib.hid (And.intro hx7.c0 (And.intro hx7.c1 hx7.c2)); have HR18 := Lib.hid hR7; unfold ovArr at hme; simp only at hme HBC18; clear ho7 hx7 hR7)
    | (go_at_call 17; refine hme.mono ?_; clear hme; rintro e w19 ⟨rfl, hb8⟩; have hR8 := HR18.out.below hb8; obtain ⟨-, hx8, -, -⟩ := HBY.out _ hR8.bel; have HBC19 := Lib.hid (And.intro hx8.c0 (And.intro hx8.c1 hx8.c2)); have HR19 := Lib.hid hR8; simp only at HBC19; clear hx8 hR8 hb8))
  go_wp2_with (fail)
  go_ret
  exact ⟨rfl, (HBY.out _ HR19.out.bel).2.2.1⟩
end
end Go.Proofs.YtibndaianhlcaaaGreatDoor
namespace Go.Proofs.YtibndaianhlcaaaGreatDoor
open Go.ChangeShapes Go.WideShapes
set_option linter.unusedVariables false
set_option linter.unusedSimpArgs false

namespace Bulk
theorem one_le {H : Type} (d : DataW H) : 1 ≤ Rows.uptoBulk d := by
  cases d with
  | lit l => cases l <;> simp [Rows.uptoBulk]
  | nil => simp [Rows.uptoBulk]
  | ptr d => simp [Rows.uptoBulk]
  | slice elems spare => simp [Rows.uptoBulk]
  | agg parts => simp [Rows.uptoBulk]
  | iface t d => simp [Rows.uptoBulk]
  | map entries => simp [Rows.uptoBulk]
  | held h => simp [Rows.uptoBulk]
theorem part_le {H : Type} {d : DataW H} {l : List (DataW H)} (h : d ∈ l) : Rows.uptoBulk d ≤ Rows.uptoBulkAll l := by
  induction l with
  | nil => cases h
  | cons x r ih =>
    simp only [Rows.uptoBulkAll]
    cases List.mem_cons.1 h with
    | inl e => subst e; omega
    | inr e => have := ih e; omega
theorem length_le {H : Type} (l : List (DataW H)) : l.length ≤ Rows.uptoBulkAll l := by
  induction l with
  | nil => simp [Rows.uptoBulkAll]
  | cons x r ih => have := one_le x; simp only [Rows.uptoBulkAll, List.length_cons]; omega
theorem slice_elems {H : Type} (elems spare : List (DataW H)) : Rows.uptoBulkAll elems + 1 ≤ Rows.uptoBulk (.slice elems spare) := by
  simp only [Rows.uptoBulk]
  omega
theorem agg {H : Type} (l : List (DataW H)) : Rows.uptoBulkAll l + 1 = Rows.uptoBulk (.agg l) := by simp only [Rows.uptoBulk]
theorem string_eq {H : Type} (bytes : List UInt8) : Rows.uptoBulk (DataW.lit (H := H) (.string bytes)) = bytes.length + 1 := by
  simp [Rows.uptoBulk]
theorem bound {H : Type} {l : List (DataW H)} (hk : Rows.uptoSmall H l = true) : Rows.uptoBulkAll l ≤ 1048576 := by
  simpa [Rows.uptoSmall] using hk
theorem slice_spare {H : Type} (elems spare : List (DataW H)) : elems.length + spare.length + 1 ≤ Rows.uptoBulk (.slice elems spare) := by
  have h1 := length_le elems
  have h2 := length_le spare
  simp only [Rows.uptoBulk]
  omega
end Bulk
end Go.Proofs.YtibndaianhlcaaaGreatDoor
