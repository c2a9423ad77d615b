/- bootjacklaw21.led: a machine behind any acts. The walk of ActivateReaches. -/
import Derived.Test.YtibndaianhlcaaaGreatDoorPart35
import Derived.Test.YtibndaianhlcaaaGreatDoorPart34
namespace Go.Proofs.YtibndaianhlcaaaGreatDoor
open Go.RowKit Go.Sort Go.Shelf
set_option linter.unusedVariables false
set_option linter.unusedSimpArgs false

def ledM (l : List ActP) : Mach := l.foldl (fun s a => (doM s a).1) newM
theorem led_succ (l : List ActP) {k : Nat} (hk : k < l.length) : ledM (l.take (k + 1)) = (doM (ledM (l.take k)) l[k]).1 := by
  unfold ledM
  rw [List.take_succ_eq_append_getElem hk, List.foldl_append]
  rfl
theorem plan_none (s : Mach) (a : ActP) (h : s.plan = []) : (doM s a).1.plan = [] := by
  have h0 : ∀ {c : Prop} [Decidable c] {x y : Mach × Int}, x.1.plan = [] → y.1.plan = [] → (if c then x else y).1.plan = [] := fun h1 h2 => by split; exact h1; exact h2
  unfold doM doStop doFile doUser doStart
  repeat' first
    | apply h0
    | exact h
    | (show s.plan.tail = []; rw [h]; rfl)
theorem led_plan : ∀ (l : List ActP) (s : Mach), s.plan = [] → (l.foldl (fun s a => (doM s a).1) s).plan = []
  | [], s, h => h
  | a :: l, s, h => led_plan l _ (plan_none s a h)
theorem led_names : ∀ (l : List ActP) (s : Mach), NamesM s → (∀ a ∈ l, NamesP a) → NamesM (l.foldl (fun s a => (doM s a).1) s)
  | [], s, h, _ => h
  | a :: l, s, h, hl => led_names l _ (doM_names h (hl a List.mem_cons_self)) fun x hx => hl x (List.mem_cons_of_mem _ hx)
theorem SmallA.names {a : AV} (h : SmallA a) : NamesP a.act := ⟨h.name, h.path, h.texts _ List.mem_cons_self⟩
set_option maxRecDepth 100000 in
set_option maxHeartbeats 4000000 in
theorem led21_any {w : World} {C : Nat} {A : Option Addr} {n c : Nat} {acts : List AV} (h : ActsAt w C A n c acts) (hC : C ≤ w.heap.size) (hs : ∀ a ∈ acts, SmallA a) :
    Calls Tryz.prog 26 #[.slice A n c] w fun e w' => e = .returned (.pointer (some ⟨w.heap.size, 0, none⟩)) ∧ ∃ F B, MRun w B w' F w.heap.size (ledM ((acts.map AV.act).take 60)) := by
  have hnew := new_any w
  have H := Lib.hid h
  have HC := Lib.hid hC
  have HS := Lib.hid hs
  have HL := Lib.hid (show (acts.map AV.act).length = n by rw [List.length_map, h.len])
  have hn62 : n ≤ 9223372036854775807 := by have := h.slc.le; have := h.slc.cmax; unfold maxLen at this; omega
  clear h hC hs
  go_enter Tryz.func26, Tryz.ntmps26
  go_wp2_with (go_at_call 20; refine hnew.mono ?_; clear hnew; rintro e w2 ⟨rfl, hm, hb⟩; have HR0 := Lib.hid (mrun_start hm hb); clear hm hb)
  go_loopw [4] (fun i wr => ∃ k : Nat, k ≤ n ∧ k ≤ 60 ∧ i = .int .i64 (k : Int) ∧ Aside (∃ F, MRun w w2.heap.size wr F w.heap.size (ledM ((acts.map AV.act).take k)))) (fun i _ => n - (intOf i).toNat)
  case atStart => exact ⟨0, Nat.zero_le _, Nat.zero_le _, rfl, _, HR0.out⟩
  case round =>
    obtain ⟨k, hk, hk60, rfl, hrel⟩ := hrel
    obtain ⟨F, hR⟩ := hrel.out
    have hbw := hR.bel
    by_cases hlt : k < n
    · have hd1 : decide ((k : Int) < (n : Int)) = true := decide_eq_true (by omega)
      by_cases hlt60 : k < 60
      · have hd2 : decide ((k : Int) < 60) = true := decide_eq_true (by omega)
        obtain ⟨b, off, rfl, hbB, hl, hcs⟩ := (H.out.below (hbw.mono HC.out)).cells hlt
        have hat := (H.out.acts _ (List.getElem_mem hl)).below (hbw.mono HC.out)
        have hsm := HS.out _ (List.getElem_mem hl)
        have HN := Lib.hid (show ledM ((acts.map AV.act).take (k + 1)) = (doM (ledM ((acts.map AV.act).take k)) acts[k].act).1 by rw [led_succ _ (by rw [HL.out]; exact hlt), List.getElem_map])
        have hap : ActApart F acts[k] := ⟨fun hn9 x hx hF => by obtain ⟨b9, o9, e9, hb9, _⟩ := hat.req.at_ hn9; rw [hx] at e9; rw [Option.some.inj e9] at hF; have h7 : w.heap.size ≤ b9 := hR.low _ hF; have := HC.out; omega, fun hn9 x hx hF => by obtain ⟨b9, o9, e9, hb9, _⟩ := hat.aft.at_ hn9; rw [hx] at e9; rw [Option.some.inj e9] at hF; have h7 : w.heap.size ≤ b9 := hR.low _ hF; have := HC.out; omega⟩
        have HSP := Lib.hid (hat.small hsm)
        generalize acts[k] = a at *
        have hdo := hR.do_ hat (Nat.le_trans HC.out hbw.size) hsm hap
        have HR := Lib.hid hR
        obtain ⟨kind, name, ⟨fp, fk, fd, fA, fn, fc⟩, ⟨nm, st, rq, A1, n1, j1, af, A2, n2, j2⟩⟩ := a
        have c0 : wr.cell? ⟨b, off + k * 9, none⟩ = some (.int .i64 kind) := hcs 0 _ rfl
        have c1 : wr.cell? ⟨b, off + k * 9 + 1, none⟩ = some (.string ⟨name.toArray⟩) := hcs 1 _ rfl
        have c2 : wr.cell? ⟨b, off + k * 9 + 2, none⟩ = some (.string ⟨fp.toArray⟩) := hcs 2 _ rfl
        have c3 : wr.cell? ⟨b, off + k * 9 + 3, none⟩ = some (.int .i64 fk) := hcs 3 _ rfl
        have c4 : wr.cell? ⟨b, off + k * 9 + 4, none⟩ = some (.slice fA fn fc) := hcs 4 _ rfl
        have c5 : wr.cell? ⟨b, off + k * 9 + 5, none⟩ = some (.string ⟨nm.toArray⟩) := hcs 5 _ rfl
        have c6 : wr.cell? ⟨b, off + k * 9 + 6, none⟩ = some (.string ⟨st.toArray⟩) := hcs 6 _ rfl
        have c7 : wr.cell? ⟨b, off + k * 9 + 7, none⟩ = some (.slice A1 n1 j1) := hcs 7 _ rfl
        have c8 : wr.cell? ⟨b, off + k * 9 + 8, none⟩ = some (.slice A2 n2 j2) := hcs 8 _ rfl
        unfold avArr at hdo
        simp only at hdo
        clear hcs hat hsm hap hrel hR hbw
        go_wp2_with (go_at_call 42; refine hdo.mono ?_; clear hdo; intro e6 w6 hq; obtain ⟨rfl, h6, st6⟩ := HR.out.did HSP.out hq; rw [← HN.out] at h6; have H6 := Lib.hid h6; clear hq h6 st6)
        exact ⟨⟨k + 1, by omega, by omega, by go_num, _, H6.out⟩, by simp [intOf]; omega⟩
      · have hk6 : k = 60 := by omega
        have hd2 : decide ((k : Int) < 60) = false := decide_eq_false (by omega)
        have HH := Lib.hid hR
        have HX := Lib.hid (show ledM ((acts.map AV.act).take 60) = ledM ((acts.map AV.act).take k) by rw [hk6])
        clear hrel hR hbw hk6
        go_wp2_with (fail)
        go_ret
        exact ⟨rfl, F, w2.heap.size, HX.out ▸ HH.out⟩
    · obtain rfl : k = n := by omega
      have HH := Lib.hid hR
      have HX := Lib.hid (show ledM ((acts.map AV.act).take 60) = ledM ((acts.map AV.act).take k) from by rw [List.take_of_length_le (by rw [HL.out]; exact hk60), List.take_of_length_le (by rw [HL.out]; exact Nat.le_refl _)])
      clear hrel hR hbw
      go_wp2_with (fail)
      go_ret
      exact ⟨rfl, F, w2.heap.size, HX.out ▸ HH.out⟩
end Go.Proofs.YtibndaianhlcaaaGreatDoor
namespace Go.Proofs.YtibndaianhlcaaaGreatDoor
open Go.RowKit Go.Sort Go.Shelf
set_option linter.unusedVariables false
set_option linter.unusedSimpArgs false

theorem led_good (l : List ActP) : GoodM (ledM l) := by
  unfold ledM
  have h : ∀ (l : List ActP) (s : Mach), GoodM s → GoodM (l.foldl (fun s a => (doM s a).1) s) := by
    intro l
    induction l with
    | nil => exact fun s h => h
    | cons a l ih => exact fun s h => ih _ (doM_good h a)
  exact h l _ good_new
/-- A machine without a plan comes to be the system. -/
theorem to_reached {m : Mach} (hg : GoodM m) (hp : m.plan = []) {s : SysP} (hs : rightS s = true) : (toM m s).2 = 0 ∧ (toM m s).1.sys = s := by
  obtain ⟨-, h⟩ := to_led hg hs
  rcases h with h | h
  · exact ⟨h.1, h.2.1⟩
  · rw [hp] at h
    have : badN [] = 0 := rfl
    omega
def seenO (A : Option Addr) (n c : Nat) (es : List EV) (A2 : Option Addr) (n2 c2 : Nat) (us : List Txt) (A3 : Option Addr) (n3 c3 : Nat) (vs : List SV) : OV := ⟨A, n, c, es, A2, n2, c2, us, A3, n3, c3, vs⟩
theorem same_sys {a b : OV} (h : sysO a = sysO b) : sameO a b = true := by
  unfold sysO at h
  simp only [SysP.mk.injEq] at h
  exact sameO_of h.1 h.2.1 h.2.2
/-- The box of the system, kept. -/
structure BoxR (W : World) (C b : Nat) (o : OV) : Prop where
  c0 : W.cell? ⟨b, 0, none⟩ = some (.slice o.A o.n o.c)
  c1 : W.cell? ⟨b, 1, none⟩ = some (.slice o.A2 o.n2 o.c2)
  c2 : W.cell? ⟨b, 2, none⟩ = some (.slice o.A3 o.n3 o.c3)
  at_ : ObsAt W C o
  le : C ≤ W.heap.size
theorem box_of {w W0 W : World} {o : OV} (hW0 : W0 = w.alloc (.cells (ovArr o) 26)) (ho : ObsAt w w.heap.size o) (hW : Below W0.heap.size W0 W) : BoxR W w.heap.size w.heap.size o ∧ Below w.heap.size w W ∧ w.heap.size < W.heap.size := by
  have hb0 : Below w.heap.size w W0 := by rw [hW0]; exact bel_new _ _
  have hG0 : Blk W0 w.heap.size 26 (ovArr o) := by rw [hW0]; exact Blk.new _ _ _
  have hG := hG0.below hW hG0.lt
  have hb := hb0.trans (hW.mono hb0.size)
  exact ⟨⟨hG.cell 0, hG.cell 1, hG.cell 2, ho.below hb, hb.size⟩, hb, hG.lt⟩
theorem acts_zero {l : List AV} {n : Nat} (h : l.map AV.act = []) (hl : l.length = n) : n = 0 := by
  rw [← hl, List.map_eq_nil_iff.1 h]
  rfl
theorem m_sys (m : Mach) (q : List Bool) : (⟨m.files, m.users, m.units, q⟩ : Mach).sys = m.sys := rfl
theorem ObsK.lift {W : World} {G : Nat → Prop} {o : OV} (h : ObsK W G o) : ObsAt W W.heap.size o := h.at_
set_option maxRecDepth 100000 in
set_option maxHeartbeats 8000000 in
theorem reaches21_any {w : World} {A : Option Addr} {n c : Nat} {acts : List AV} (hl : ActsAt w w.heap.size A n c acts) (hs : ∀ a ∈ acts, SmallA a) {o : OV} (ho : ObsAt w w.heap.size o) (hso : SmallO o) :
    Calls Tryz.prog 5 #[.slice A n c, .agg (ovArr o)] w fun e w' => e = .returned (.bool true) ∧ Below w.heap.size w w' := by
  obtain ⟨W0, hW0⟩ : ∃ W0, W0 = w.alloc (.cells (ovArr o) 26) := ⟨_, rfl⟩
  have hsh := shown21_any W0
  have HBX := Lib.hid (fun (W : World) (hW : Below W0.heap.size W0 W) => box_of hW0 ho hW)
  have H := Lib.hid hl
  have HS := Lib.hid hs
  have HSO := Lib.hid hso
  have HSS := Lib.hid (hso.sys ho)
  obtain ⟨m0, hm0⟩ : ∃ m0, m0 = ledM ((acts.map AV.act).take 60) := ⟨_, rfl⟩
  have HM0 := Lib.hid hm0
  have HNM := Lib.hid (show NamesM m0 by rw [hm0]; exact led_names _ _ names_new (fun a ha => by obtain ⟨x, hx, rfl⟩ := List.mem_map.1 (List.mem_of_mem_take ha); exact (hs x hx).names))
  have HPN := Lib.hid (show m0.plan = [] by rw [hm0]; exact led_plan _ _ rfl)
  have HGD := Lib.hid (show GoodM m0 by rw [hm0]; exact led_good _)
  obtain ⟨p, hp⟩ : ∃ p, p = sysO o := ⟨_, rfl⟩
  have HP := Lib.hid hp
  rw [hW0] at hsh
  obtain ⟨Ao, no, co, eo, Ao2, no2, co2, uo, Ao3, no3, co3, vo⟩ := o
  unfold ovArr at hsh hW0 ⊢
  simp only at hsh hW0 ⊢
  have HW0 := Lib.hid hW0
  clear hl hs ho hso hm0 hp hW0
  obtain ⟨m1, hm1⟩ : ∃ m1, m1 = (toM m0 p).1 := ⟨_, rfl⟩
  obtain ⟨z1, hz1⟩ : ∃ z1, z1 = (toM m0 p).2 := ⟨_, rfl⟩
  have HM1 := Lib.hid hm1
  have HZ1 := Lib.hid hz1
  clear hm1 hz1
  go_enter Tryz.func5, Tryz.ntmps5
  go_upto_region 7 with (first
    | (go_at_call 10; refine hsh.mono ?_; clear hsh; rintro e w1 ⟨rfl, hb1⟩; rw [← HW0.out] at hb1; have HBY := Lib.hid (fun (W : World) (hW : Below w1.heap.size w1 W) => HBX.out W (hb1.trans (hW.mono hb1.size))); obtain ⟨-, hbw, -⟩ := HBX.out w1 hb1; have hled := led21_any (C := w.heap.size) (H.out.below hbw) hbw.size HS.out; rw [← HM0.out] at hled; clear hb1 hbw)
    | (go_at_call 26; refine hled.mono ?_; clear hled; rintro e w2 ⟨rfl, F, B, hR⟩; have hse := hR.seen; have HR2 := Lib.hid hR; clear hR)
    | (go_at_call 25; refine hse.mono ?_; clear hse; rintro e w3 ⟨Aw, nw, cw, ew, Aw2, nw2, cw2, Aw3, nw3, cw3, uw, rfl, hob⟩; have hR4 := (HR2.out.below hob.bel).below (bel_new w3 (.cells #[.slice Aw nw cw, .slice Aw2 nw2 cw2, .slice Aw3 nw3 cw3] 28)); obtain ⟨hx3, -, hwl⟩ := HBY.out w3 (HR2.out.below hob.bel).bel; have k0 := hx3.c0; have k1 := hx3.c1; have k2 := hx3.c2; obtain ⟨hx4, -, -⟩ := HBY.out _ hR4.bel; have hto := to21_any hR4 HNM.out hx4.at_ hx4.le HSO.out; rw [← HP.out] at hto; have HOB := Lib.hid hob; have HR4 := Lib.hid hR4; unfold ovArr at hto; simp only at hto k0 k1 k2; clear hob hR4 hx3 hx4)
    | (go_at_call 27; refine hto.mono ?_; clear hto; rintro e w5 ⟨rfl, F5, h5, st5⟩; obtain ⟨hx5, -, -⟩ := HBY.out _ h5.bel; have l0 := hx5.c0; have l1 := hx5.c1; have l2 := hx5.c2; have hr := right21_any hx5.at_ hx5.le HSO.out; rw [← HP.out] at hr; rw [← HM1.out] at h5; have HR5 := Lib.hid h5; have HST5 := Lib.hid st5; unfold ovArr at hr; simp only at hr l0 l1 l2; rw [← HZ1.out]; clear h5 st5 hx5))
  cases hrt : rightS p with
  | false =>
    have hto0 : toM m0 p = (m0, 70) := by unfold toM; rw [hrt]; rfl
    obtain rfl : z1 = 70 := by rw [HZ1.out, hto0]
    have hmm : m1 = m0 := by rw [HM1.out, hto0]
    subst hmm
    rw [hrt] at hr
    clear hrt hto0
    have HV5 := Lib.hid ((Blk.new w3 28 #[.slice Aw nw cw, .slice Aw2 nw2 cw2, .slice Aw3 nw3 cw3]).step HST5.out (fun hF => by have := HR2.out.lt _ hF; have := HOB.out.bel.size; omega))
    have HK5 := Lib.hid ((HOB.out.kept.below (bel_new w3 (.cells #[.slice Aw nw cw, .slice Aw2 nw2 cw2, .slice Aw3 nw3 cw3] 28))).step HST5.out (fun k hk hF => by have := HR2.out.lt _ hF; have hk := hk.1; omega))
    go_wp2_with (go_at_call 15; refine hr.mono ?_; clear hr; rintro e w6 ⟨rfl, hb6⟩; have HB6 := Lib.hid (hb6.trans (Below.refl _ w6).drew); clear hb6)
    have hse := (HR5.out.below HB6.out).seen
    have HVS := Lib.hid (fun (W : World) (hW : Below w6.drew.heap.size w6.drew W) => show W.cell? ⟨w3.heap.size, 0, none⟩ = some (.slice Aw nw cw) ∧ W.cell? ⟨w3.heap.size, 1, none⟩ = some (.slice Aw2 nw2 cw2) ∧ W.cell? ⟨w3.heap.size, 2, none⟩ = some (.slice Aw3 nw3 cw3) from by
      have h9 := (HV5.out.below HB6.out HV5.out.lt).below hW (Nat.lt_of_lt_of_le HV5.out.lt HB6.out.size)
      exact ⟨h9.cell 0, h9.cell 1, h9.cell 2⟩)
    obtain ⟨v0, v1, v2⟩ := HVS.out _ (Below.refl _ _)
    go_region_held (fun W' => W'.cell? ⟨w3.heap.size, 0, none⟩ = some (.slice Aw nw cw) ∧ W'.cell? ⟨w3.heap.size, 1, none⟩ = some (.slice Aw2 nw2 cw2) ∧ W'.cell? ⟨w3.heap.size, 2, none⟩ = some (.slice Aw3 nw3 cw3)) (first | exact HVS.out _ HB8.out | exact HVS.out _ HB7.out | exact ⟨v0, v1, v2⟩) (first
      | (go_at_call 25; refine hse.mono ?_; clear hse; rintro e w7 ⟨Ax, nx, cx, ex, Ax2, nx2, cx2, Ax3, nx3, cx3, ux, rfl, ho7⟩; have hsm := same20_any ho7.kept.at_ ((HK5.out.below HB6.out).below ho7.bel).at_ (Nat.le_refl _); rw [same_sys ((sys_seen ho7).trans (sys_seen HOB.out).symm)] at hsm; have HB7 := Lib.hid ho7.bel; unfold ovArr at hsm; clear ho7)
      | (go_at_call 24; refine hsm.mono ?_; clear hsm; rintro e w8 ⟨rfl, hb8⟩; have HB8 := Lib.hid (HB7.out.trans (hb8.mono HB7.out.size)); clear hb8))
    go_wp2_with (fail)
    go_ret
    exact ⟨rfl, (HBY.out _ (HR5.out.bel.trans ((HB6.out.trans (HB8.out.mono HB6.out.size)).mono HR5.out.bel.size))).2.1⟩
  | true =>
    obtain ⟨r1, r2⟩ := to_reached HGD.out HPN.out hrt
    obtain rfl : z1 = 0 := by rw [HZ1.out, r1]
    have HSY := Lib.hid (show m1.sys = p by rw [HM1.out, r2])
    have HN1 := Lib.hid (show NamesM m1 by rw [HM1.out]; exact toM_names HNM.out (HP.out ▸ HSS.out))
    have HRT := Lib.hid hrt
    rw [hrt] at hr
    clear hrt r1 r2
    go_wp2_with (go_at_call 15; refine hr.mono ?_; clear hr; rintro e w6 ⟨rfl, hb6⟩; have HB6 := Lib.hid (hb6.trans (Below.refl _ w6).drew); clear hb6)
    have hR6 := HR5.out.below HB6.out
    have hse := hR6.seen
    have HR6 := Lib.hid hR6
    obtain ⟨hx6, -, -⟩ := HBY.out _ hR6.bel
    have y0 := hx6.c0
    have y1 := hx6.c1
    have y2 := hx6.c2
    simp only at y0 y1 y2
    clear hR6 hx6
    go_region_held (fun W' => W'.cell? ⟨w.heap.size, 0, none⟩ = some (.slice Ao no co) ∧ W'.cell? ⟨w.heap.size, 1, none⟩ = some (.slice Ao2 no2 co2) ∧ W'.cell? ⟨w.heap.size, 2, none⟩ = some (.slice Ao3 no3 co3)) (first | exact HBC8.out | exact HBC7.out | exact ⟨y0, y1, y2⟩) (first
      | (go_at_call 25; refine hse.mono ?_; clear hse; rintro e w7 ⟨Ax, nx, cx, ex, Ax2, nx2, cx2, Ax3, nx3, cx3, ux, rfl, ho7⟩; have hR7 := HR6.out.below ho7.bel; obtain ⟨hx7, -, -⟩ := HBY.out _ hR7.bel; have hme := meets21_any ho7.kept.at_ (hx7.at_.more3 hx7.le) (Nat.le_refl _); rw [same_sys ((sys_seen ho7).trans (HSY.out.trans HP.out))] at hme; have HBC7 := Lib.hid (And.intro hx7.c0 (And.intro hx7.c1 hx7.c2)); have HR7 := Lib.hid hR7; unfold ovArr at hme; simp only at hme HBC7; clear ho7 hx7 hR7)
      | (go_at_call 17; refine hme.mono ?_; clear hme; rintro e w8 ⟨rfl, hb8⟩; have hR8 := HR7.out.below hb8; obtain ⟨hx8, -, -⟩ := HBY.out _ hR8.bel; have HBC8 := Lib.hid (And.intro hx8.c0 (And.intro hx8.c1 hx8.c2)); have HR8 := Lib.hid hR8; simp only at HBC8; clear hx8 hR8 hb8))
    have hR9 := HR8.out.below (bel_new w8 (.cells #[.bool true, .bool true, .bool true] 4))
    have hpl := plan_any hR9.mach (B := w8.heap.size + 1) (p := [true, true, true]) ((Blk.new w8 4 #[.bool true, .bool true, .bool true]).slc (sz := 1) (n := 3) (c := 3) (Nat.le_refl _) (Nat.le_refl _) (by decide)) (by simp) (by decide)
    have HR9 := Lib.hid hR9
    clear hR9
    go_wp2_with (first
      | (go_at_call 21; refine hpl.mono ?_; clear hpl; rintro e w10 ⟨rfl, hm10, st10⟩; have hR10 := HR9.out.planned hm10 st10; obtain ⟨hx10, -, -⟩ := HBY.out _ hR10.bel; have u0 := hx10.c0; have u1 := hx10.c1; have u2 := hx10.c2; have hto := to21_any hR10 ⟨HN1.out.files, HN1.out.users, HN1.out.units⟩ hx10.at_ hx10.le HSO.out; rw [← HP.out, to_again HRT.out ((m_sys m1 [true, true, true]).trans HSY.out)] at hto; unfold ovArr ToPost at hto; simp only at hto u0 u1 u2; clear hm10 st10 hR10 hx10)
      | (go_at_call 27; refine hto.mono ?_; clear hto; rintro e w11 ⟨rfl, F11, h11, -⟩; have HR11 := Lib.hid (h11.below (Below.refl _ w11).drew); clear h11))
    have hse := HR11.out.seen
    obtain ⟨hx11, -, -⟩ := HBY.out _ HR11.out.bel
    have y0 := hx11.c0
    have y1 := hx11.c1
    have y2 := hx11.c2
    simp only at y0 y1 y2
    clear hx11
    go_region_held (fun W' => W'.cell? ⟨w.heap.size, 0, none⟩ = some (.slice Ao no co) ∧ W'.cell? ⟨w.heap.size, 1, none⟩ = some (.slice Ao2 no2 co2) ∧ W'.cell? ⟨w.heap.size, 2, none⟩ = some (.slice Ao3 no3 co3)) (first | exact HBC13.out | exact HBC12.out | exact ⟨y0, y1, y2⟩) (first
      | (go_at_call 25; refine hse.mono ?_; clear hse; rintro e w12 ⟨Ax, nx, cx, ex, Ax2, nx2, cx2, Ax3, nx3, cx3, ux, rfl, ho12⟩; have hR12 := HR11.out.below ho12.bel; obtain ⟨hx12, -, -⟩ := HBY.out _ hR12.bel; have hac := acts21_any (o := ⟨Ax, nx, cx, ex, Ax2, nx2, cx2, m1.users, Ax3, nx3, cx3, ux⟩) ho12.kept.at_ (hx12.at_.more3 hx12.le) (Nat.le_refl _) HSO.out (obs_counts HR11.out.good ho12); rw [show sysO ⟨Ax, nx, cx, ex, Ax2, nx2, cx2, m1.users, Ax3, nx3, cx3, ux⟩ = p from (sys_seen ho12).trans ((m_sys m1 [true, true, true]).trans HSY.out), ← HP.out, show actsR p p = [] from (if_pos HRT.out).trans (acts_none p)] at hac; have HBC12 := Lib.hid (And.intro hx12.c0 (And.intro hx12.c1 hx12.c2)); have HR12 := Lib.hid hR12; unfold ovArr at hac; simp only at hac HBC12; clear ho12 hx12 hR12)
      | (go_at_call 28; refine hac.mono ?_; clear hac; rintro e w13 ⟨Ay, ny, cy, ly, rfl, hly, hao⟩; obtain rfl : ny = 0 := (acts_zero hly hao.at_.len); have hR13 := HR12.out.below hao.bel; obtain ⟨hx13, -, -⟩ := HBY.out _ hR13.bel; have HBC13 := Lib.hid (And.intro hx13.c0 (And.intro hx13.c1 hx13.c2)); have HR13 := Lib.hid hR13; simp only at HBC13; clear hx13 hR13 hao hly))
    go_wp2_with (fail)
    go_ret
    exact ⟨rfl, (HBY.out _ HR13.out.bel).2.1⟩
end Go.Proofs.YtibndaianhlcaaaGreatDoor
