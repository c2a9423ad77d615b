/- activate.Run: steps are done up to the first that fails. The walk of ActivateRuns. activate.To: a machine is led to a system. -/
import Derived.Test.YtibndaianhlcaaaGreatDoorPart33
import Derived.Test.YtibndaianhlcaaaGreatDoorPart34
import Derived.Test.YtibndaianhlcaaaGreatDoorPart30
import Derived.Deep.RegionLaw
import Derived.Test.YtibndaianhlcaaaGreatDoorPart31
namespace Go.Proofs.YtibndaianhlcaaaGreatDoor
open Go.RowKit Go.Sort Go.Shelf
set_option linter.unusedVariables false
set_option linter.unusedSimpArgs false

/-- Steps in memory, all in blocks of G. -/
structure ActsK (W : World) (G : Nat → Prop) (A : Option Addr) (n c : Nat) (l : List AV) : Prop where
  at_ : ActsAt W W.heap.size A n c l
  row : 0 < n → ∀ x, A = some x → G x.block
  data : ∀ a ∈ l, 0 < a.file.n → ∀ x, a.file.A = some x → G x.block
  req : ∀ a ∈ l, 0 < a.unit.n → ∀ x, a.unit.A = some x → G x.block
  aft : ∀ a ∈ l, 0 < a.unit.n2 → ∀ x, a.unit.A2 = some x → G x.block
theorem ActsK.step {W W' : World} {G F F' : Nat → Prop} {A : Option Addr} {n c : Nat} {l : List AV} (h : ActsK W G A n c l) (st : Step W W' F F') (hd : ∀ k, G k → ¬ F k) : ActsK W' G A n c l := by
  have key : ∀ {sz : Nat} {A : Option Addr} {n c : Nat} {xs : List Value}, Slc W W.heap.size sz A n c xs → (0 < n → ∀ a, A = some a → G a.block) → Slc W' W'.heap.size sz A n c xs := fun hs hg => (hs.apart0 st (fun hn a ha hF => hd _ (hg hn a ha) hF)).more st.size
  exact ⟨⟨key h.at_.slc h.row, h.at_.len, fun a ha => ⟨key (h.at_.acts a ha).data (h.data a ha), key (h.at_.acts a ha).req (h.req a ha), key (h.at_.acts a ha).aft (h.aft a ha)⟩⟩, h.row, h.data, h.req, h.aft⟩
theorem ActsK.below {W W' : World} {G : Nat → Prop} {A : Option Addr} {n c : Nat} {l : List AV} (h : ActsK W G A n c l) (hb : Below W.heap.size W W') : ActsK W' G A n c l := h.step (step_below hb) (fun _ _ h => h)
theorem ActsK.low {W : World} {B : Nat} {A : Option Addr} {n c : Nat} {l : List AV} (h : ActsAt W B A n c l) (hB : B ≤ W.heap.size) : ActsK W (fun k => k < B) A n c l := by
  have key : ∀ {sz : Nat} {A : Option Addr} {n c : Nat} {xs : List Value}, Slc W B sz A n c xs → 0 < n → ∀ x, A = some x → x.block < B := fun hs hn x hx => by
    obtain ⟨b, off, e, hb, _⟩ := hs.at_ hn
    rw [hx] at e
    rw [Option.some.inj e]
    exact hb
  exact ⟨⟨h.slc.more hB, h.len, fun a ha => (h.acts a ha).more hB⟩, key h.slc, fun a ha => key (h.acts a ha).data, fun a ha => key (h.acts a ha).req, fun a ha => key (h.acts a ha).aft⟩
theorem run_ok : ∀ {L : List ActP} {s s' : Mach} {k : Nat} (hk : k < L.length), runM s (L.take k) = (s', k, 0) → (doM s' L[k]).2 = 0 → runM s (L.take (k + 1)) = ((doM s' L[k]).1, k + 1, 0)
  | a :: L, s, s', 0, _, h, h0 => by
    simp only [List.take_zero, runM, Prod.mk.injEq] at h
    obtain ⟨rfl, -⟩ := h
    have h0 : (doM s a).2 = 0 := h0
    show runM s [a] = _
    simp [runM, h0]
  | a :: L, s, s', k + 1, hk, h, h0 => by
    rw [List.take_succ_cons] at h
    rw [List.take_succ_cons]
    unfold runM at h ⊢
    by_cases h1 : (doM s a).2 = 0
    · rw [if_pos h1] at h ⊢
      simp only [Prod.mk.injEq] at h
      obtain ⟨e1, e2, e3⟩ := h
      have ih := run_ok (L := L) (s := (doM s a).1) (s' := s') (k := k) (by simpa using hk) (by rw [← e1]; ext <;> simp_all) (by simpa using h0)
      rw [ih]
      simp
    · rw [if_neg h1] at h
      simp only [Prod.mk.injEq] at h
      omega
theorem run_bad : ∀ {L : List ActP} {s s' : Mach} {k : Nat} (hk : k < L.length), runM s (L.take k) = (s', k, 0) → ¬ (doM s' L[k]).2 = 0 → runM s L = ((doM s' L[k]).1, k, (doM s' L[k]).2)
  | a :: L, s, s', 0, _, h, h0 => by
    simp only [List.take_zero, runM, Prod.mk.injEq] at h
    obtain ⟨rfl, -⟩ := h
    have h0 : ¬ (doM s a).2 = 0 := h0
    unfold runM
    rw [if_neg h0]
    rfl
  | a :: L, s, s', k + 1, hk, h, h0 => by
    rw [List.take_succ_cons] at h
    unfold runM at h ⊢
    by_cases h1 : (doM s a).2 = 0
    · rw [if_pos h1] at h ⊢
      simp only [Prod.mk.injEq] at h
      obtain ⟨e1, e2, e3⟩ := h
      have ih := run_bad (L := L) (s := (doM s a).1) (s' := s') (k := k) (by simpa using hk) (by rw [← e1]; ext <;> simp_all) (by simpa using h0)
      rw [ih]
      simp
    · rw [if_neg h1] at h
      simp only [Prod.mk.injEq] at h
      omega
/-- What Run gives. -/
def RunPost (w : World) (B : Nat) (W : World) (F : Nat → Prop) (g : Nat) (r : Mach × Nat × Int) : Ending → World → Prop := fun e w' => e = .returned (.tuple #[.int .i64 (r.2.1 : Int), .int .i64 r.2.2]) ∧ ∃ F', MRun w B w' F' g r.1 ∧ Step W w' F F'
set_option maxRecDepth 100000 in
set_option maxHeartbeats 4000000 in
theorem run21_any {w W : World} {B g : Nat} {F : Nat → Prop} {s : Mach} (h : MRun w B W F g s) {G : Nat → Prop} {A : Option Addr} {n c : Nat} {l : List AV} (ha : ActsK W G A n c l) (hs : ∀ a ∈ l, SmallA a) (hd : ∀ k, G k → ¬ F k) (hG : ∀ k, G k → k < W.heap.size) :
    Calls Tryz.prog 22 #[.pointer (some ⟨g, 0, none⟩), .slice A n c] W (RunPost w B W F g (runM s (l.map AV.act))) := by
  have H := Lib.hid h
  have HA := Lib.hid ha
  have HS := Lib.hid hs
  have HD := Lib.hid hd
  have HG := Lib.hid hG
  have HL := Lib.hid (show (l.map AV.act).length = n by rw [List.length_map, ha.at_.len])
  have hn62 : n ≤ 9223372036854775807 := by have := ha.at_.slc.le; have := ha.at_.slc.cmax; unfold maxLen at this; omega
  clear h ha hs hd hG
  go_enter Tryz.func22, Tryz.ntmps22
  go_wp2_with (fail)
  go_loopw [11] (fun i wr => ∃ k : Nat, k ≤ n ∧ i = .int .i64 (k : Int) ∧ Aside (∃ F' s', MRun w B wr F' g s' ∧ Step W wr F F' ∧ runM s ((l.map AV.act).take k) = (s', k, 0))) (fun i _ => n - (intOf i).toNat)
  case atStart => exact ⟨0, Nat.zero_le _, rfl, F, s, H.out, Step.refl _ _, rfl⟩
  case round =>
    obtain ⟨k, hk, rfl, hrun⟩ := hrel
    obtain ⟨F', s', hR, hst, hto⟩ := hrun.out
    have hd' : ∀ q, G q → ¬ F' q := fun q hq hF => by
      rcases hst.next q hF with h9 | h9
      · exact HD.out q hq h9
      · have := HG.out q hq; omega
    have hK := HA.out.step hst HD.out
    by_cases hlt : k < n
    · obtain ⟨b, off, rfl, hbB, hl, hcs⟩ := hK.at_.cells hlt
      have hat := hK.at_.acts _ (List.getElem_mem hl)
      have hsm := HS.out _ (List.getElem_mem hl)
      have hap : ActApart F' l[k] := ⟨fun hn x hx => hd' _ (hK.req _ (List.getElem_mem hl) hn x hx), fun hn x hx => hd' _ (hK.aft _ (List.getElem_mem hl) hn x hx)⟩
      have hkl : k < (l.map AV.act).length := by rw [HL.out]; exact hlt
      have hget : (l.map AV.act)[k] = l[k].act := by rw [List.getElem_map]
      have HOK := Lib.hid (fun h0 => run_ok hkl hto (by rw [hget]; exact h0))
      have HBAD := Lib.hid (fun h0 => run_bad hkl hto (by rw [hget]; exact h0))
      rw [hget] at HOK HBAD
      have HSP := Lib.hid (hat.small hsm)
      generalize l[k] = a at *
      obtain ⟨W1, hW1⟩ : ∃ W1, W1 = wr.alloc (.cells (avArr a) 61) := ⟨_, rfl⟩
      have hb1 : Below wr.heap.size wr W1 := by rw [hW1]; exact bel_new _ _
      have hR1 := hR.below hb1
      have hdo := hR1.do_ (hat.below hb1) hb1.size hsm hap
      have HR1 := Lib.hid hR1
      have HST := Lib.hid (hst.trans (Step.of_below hb1 F'))
      obtain ⟨kind, name, ⟨fp, fk, fd, fA, fn, fc⟩, ⟨nm, st, rq, A1, n1, k1, af, A2, n2, k2⟩⟩ := a
      have c0 : wr.cell? ⟨b, off + k * 9, none⟩ = some (.int .i64 kind) := hcs 0 _ rfl
      have c1 : wr.cell? ⟨b, off + k * 9 + 1, none⟩ = some (.string ⟨name.toArray⟩) := hcs 1 _ rfl
      have c2 : wr.cell? ⟨b, off + k * 9 + 2, none⟩ = some (.string ⟨fp.toArray⟩) := hcs 2 _ rfl
      have c3 : wr.cell? ⟨b, off + k * 9 + 3, none⟩ = some (.int .i64 fk) := hcs 3 _ rfl
      have c4 : wr.cell? ⟨b, off + k * 9 + 4, none⟩ = some (.slice fA fn fc) := hcs 4 _ rfl
      have c5 : wr.cell? ⟨b, off + k * 9 + 5, none⟩ = some (.string ⟨nm.toArray⟩) := hcs 5 _ rfl
      have c6 : wr.cell? ⟨b, off + k * 9 + 6, none⟩ = some (.string ⟨st.toArray⟩) := hcs 6 _ rfl
      have c7 : wr.cell? ⟨b, off + k * 9 + 7, none⟩ = some (.slice A1 n1 k1) := hcs 7 _ rfl
      have c8 : wr.cell? ⟨b, off + k * 9 + 8, none⟩ = some (.slice A2 n2 k2) := hcs 8 _ rfl
      rw [hW1] at hdo
      have HW1 := Lib.hid hW1
      unfold avArr at hdo
      simp only at hdo
      clear hcs hat hsm hap hb1 hR1 hW1 hrun hR hst hto hd' hK hget
      by_cases h0 : (doM s' (⟨kind, name, ⟨fp, fk, fd, fA, fn, fc⟩, ⟨nm, st, rq, A1, n1, k1, af, A2, n2, k2⟩⟩ : AV).act).2 = 0
      · have HX := Lib.hid (HOK.out h0)
        have H0 := Lib.hid h0
        clear h0
        go_wp2_with (go_at_call 42; refine hdo.mono ?_; clear hdo; intro e6 w6 hq; obtain ⟨rfl, h6, st6⟩ := HR1.out.did HSP.out (show MachPost W1 _ _ _ _ _ by rw [HW1.out]; exact hq); have H6 := Lib.hid (And.intro h6 (HST.out.trans st6)); clear hq h6 st6; rw [H0.out])
        exact ⟨⟨k + 1, by omega, by go_num, _, _, H6.out.1, H6.out.2, HX.out⟩, by simp [intOf]; omega⟩
      · have HX := Lib.hid (HBAD.out h0)
        obtain ⟨z, hz⟩ : ∃ z, z = (doM s' (⟨kind, name, ⟨fp, fk, fd, fA, fn, fc⟩, ⟨nm, st, rq, A1, n1, k1, af, A2, n2, k2⟩⟩ : AV).act).2 := ⟨_, rfl⟩
        have hz0 : (z == 0) = false := by rw [beq_eq_false_iff_ne, hz]; exact h0
        have hz1 : ¬ z = 0 := by rw [hz]; exact h0
        have HZ := Lib.hid hz
        clear h0 hz
        go_wp2_with (go_at_call 42; refine hdo.mono ?_; clear hdo; intro e6 w6 hq; obtain ⟨rfl, h6, st6⟩ := HR1.out.did HSP.out (show MachPost W1 _ _ _ _ _ by rw [HW1.out]; exact hq); have H6 := Lib.hid (And.intro h6 (HST.out.trans st6)); clear hq h6 st6; rw [← HZ.out])
        go_ret2
        unfold RunPost
        rw [HX.out]
        exact ⟨by rw [HZ.out]; rfl, _, H6.out.1, H6.out.2⟩
    · obtain rfl : k = n := by omega
      have HX := Lib.hid (show runM s (l.map AV.act) = (s', k, 0) by rw [← hto, List.take_of_length_le (by rw [HL.out]; exact Nat.le_refl _)])
      have HH := Lib.hid (And.intro hR hst)
      clear hrun hR hst hto hd' hK
      go_wp2_with (fail)
      go_ret2
      unfold RunPost
      rw [HX.out]
      exact ⟨rfl, _, HH.out.1, HH.out.2⟩
end Go.Proofs.YtibndaianhlcaaaGreatDoor
namespace Go.Proofs.YtibndaianhlcaaaGreatDoor
open Go.RowKit Go.Sort Go.Shelf
set_option linter.unusedVariables false
set_option linter.unusedSimpArgs false

theorem good_plan {s : Mach} (h : GoodM s) (p : List Bool) : GoodM ⟨s.files, s.users, s.units, p⟩ := by
  obtain ⟨g1, g2, g3, g4, g5, g6, g7⟩ := h
  exact ⟨g1, g2, g3, g4, g5, g6, g7⟩
theorem mrun_aside {w W W' : World} {B : Nat} {F : Nat → Prop} {g : Nat} {s : Mach} (h : MRun w B W F g s) {G G' : Nat → Prop} (st : Step W W' G G') (hF : ∀ k, F k → ¬ G k) (hG : ∀ k, G k → w.heap.size ≤ k) : MRun w B W' F g s := by
  obtain ⟨fA, fn, fc, es, uA, un, uc, nA, nn, nc, us, pA, pn, pc, hm⟩ := h.mach
  have hs := st.size
  have hz := h.bel.size
  exact ⟨⟨fA, fn, fc, es, uA, un, uc, nA, nn, nc, us, pA, pn, pc, hm.step st hF⟩, h.good, h.small, h.foot, fun k hk => by have := h.lt k hk; omega, h.bel.trans (st.below hz hG), h.g0, h.b0, Nat.le_trans h.b1 hs⟩
theorem plan_ite {c : Prop} [Decidable c] {x y : Mach × Int} {n : Nat} (h1 : x.1.plan.length ≤ n) (h2 : y.1.plan.length ≤ n) : (if c then x else y).1.plan.length ≤ n := by
  split
  · exact h1
  · exact h2
theorem plan_less (s : Mach) (a : ActP) : (doM s a).1.plan.length ≤ s.plan.length := by
  unfold doM doStop doFile doUser doStart
  repeat' first
    | apply plan_ite
    | exact Nat.le_refl _
    | (show s.plan.tail.length ≤ _; rw [List.length_tail]; omega)
theorem ref_tells {W : World} {R : Nat → Prop} {r : Nat} {t : Mach} (h : RefAt W R r t) : ∃ o : OV, o.es.map EV.ent = t.files ∧ o.users = t.users ∧ o.us.map SV.srv = t.units ∧ ∀ W', Below W.heap.size W W' → (LoadS 28 (.pointer (some ⟨r, 0, none⟩))).run Tryz.prog W' = .ok (.agg (ovArr o)) W' ∧ ObsAt W' W'.heap.size o := by
  obtain ⟨o, pA, pn, pc, hv⟩ := h
  refine ⟨o, hv.ents, hv.users, hv.srvs, fun W' hb => ?_⟩
  have hv' := hv.step (step_below hb) (fun _ _ h => h) (fun h => h)
  exact ⟨LoadS.of_blk (P := Tryz.prog) (n := 3) (o := 0) hv'.blk Tryz.underlying28 rfl (by kernel_rfl) (by show 0 + 3 ≤ 4; omega), hv'.obs.at_⟩
/-- What the run of the law keeps: the machine behind Run, the reference's machine behind some steps. -/
structure RunsS (w1 : World) (B : Nat) (W : World) (F : Nat → Prop) (g r : Nat) (s t : Mach) : Prop where
  run : MRun w1 B W F g s
  nr : ¬ F r
  r0 : w1.heap.size ≤ r
  ref : ∃ R, RefAt W R r t ∧ ∀ k, R k → k < W.heap.size
  good : GoodM t
  plan : t.plan.length ≤ 1000000000
theorem RunsS.ref_ {w1 W W' : World} {B g r : Nat} {F R : Nat → Prop} {s t : Mach} {a : ActP} {e : Ending} (h : RunsS w1 B W F g r s t) (hR : ∀ k, R k → k < W.heap.size) (hp : RefPost W R r (doM t a) e W') : e = .returned (.int .i64 (doM t a).2) ∧ RunsS w1 B W' F g r s (doM t a).1 := by
  obtain ⟨h1, h2, h3⟩ := hp
  have hs := h3.size
  refine ⟨h1, mrun_aside h.run h3 (fun k hk e => h.nr (by rw [← show k = r from e]; exact hk)) (fun k hk => by have := h.r0; omega), h.nr, h.r0, ⟨_, h2, fun k hk => ?_⟩, doM_good h.good a, Nat.le_trans (plan_less t a) h.plan⟩
  rcases hk with hk | hk
  · exact Nat.lt_of_lt_of_le (hR k hk) hs
  · exact hk.2
theorem RunsS.below {w1 W W' : World} {B g r : Nat} {F : Nat → Prop} {s t : Mach} (h : RunsS w1 B W F g r s t) (hb : Below W.heap.size W W') : RunsS w1 B W' F g r s t := by
  obtain ⟨R, hv, hR⟩ := h.ref
  obtain ⟨o, pA, pn, pc, hv⟩ := hv
  exact ⟨h.run.below hb, h.nr, h.r0, ⟨R, ⟨o, pA, pn, pc, hv.below hb⟩, fun k hk => Nat.lt_of_lt_of_le (hR k hk) hb.size⟩, h.good, h.plan⟩
/-- The reference's machine, new, its plan the caller's. -/
theorem ref_new {W : World} {B : Nat} {A : Option Addr} {n c : Nat} {p : List Bool} (hp : Slc W B 1 A n c (p.map bl)) (hB : B ≤ W.heap.size) :
    ∃ R, RefAt (W.alloc (.cells #[.slice none 0 0, .slice none 0 0, .slice none 0 0, .slice A n c] 46)) R W.heap.size ⟨[], [], [], p⟩ ∧ ∀ k, R k → k < B := by
  have hb := bel_new W (.cells #[.slice none 0 0, .slice none 0 0, .slice none 0 0, .slice A n c] 46)
  have hlt : 0 < n → ∀ a, A = some a → a.block < B := fun hn a ha => by
    obtain ⟨b, off, e, hb, _⟩ := hp.at_ hn
    rw [ha] at e
    rw [Option.some.inj e]
    exact hb
  refine ⟨fun k => 0 < n ∧ ∃ a, A = some a ∧ a.block = k, ⟨⟨none, 0, 0, [], none, 0, 0, [], none, 0, 0, []⟩, A, n, c, ⟨Blk.new _ _ _, ?_, ⟨⟨⟨slc_none _ _ _, rfl, (fun e he => by cases he)⟩, slc_none _ _ _, ⟨slc_none _ _ _, rfl, (fun u hu => by cases hu), (fun u hu => by cases hu)⟩⟩, (fun a h => by cases h), (fun a h => by cases h), (fun a h => by cases h), (fun e he => by cases he), (fun u hu => by cases hu), (fun u hu => by cases hu)⟩, rfl, rfl, rfl, ?_, fun hn a ha => ⟨hn, a, ha, rfl⟩⟩⟩, fun k ⟨hn, a, ha, e⟩ => by rw [← e]; exact hlt hn a ha⟩
  · rintro ⟨hn, a, ha, e⟩
    have := hlt hn a ha
    omega
  · exact (hp.below (hb.mono hB)).more (by have := hb.size; omega)
theorem runs_start {w w1 w2 w4 w5 : World} {B : Nat} {pA : Option Addr} {pn pc : Nat} {p : List Bool} {F' : Nat → Prop} {s : Mach} (hb1 : Below w.heap.size w w1) (hgl : w1.heap.size < w2.heap.size)
    (hrn : ∃ R, RefAt (w2.alloc (.cells #[.slice none 0 0, .slice none 0 0, .slice none 0 0, .slice pA pn pc] 46)) R w2.heap.size ⟨[], [], [], p⟩ ∧ ∀ k, R k → k < w.heap.size)
    (h4 : Step (w2.alloc (.cells #[.slice none 0 0, .slice none 0 0, .slice none 0 0, .slice pA pn pc] 46)) w4 (fun k => k = w1.heap.size) (Fn (fun k => k = w1.heap.size) (w2.alloc (.cells #[.slice none 0 0, .slice none 0 0, .slice none 0 0, .slice pA pn pc] 46)) w4))
    (h5 : MRun w1 B w5 F' w1.heap.size s) (st5 : Step w4 w5 (Fn (fun k => k = w1.heap.size) (w2.alloc (.cells #[.slice none 0 0, .slice none 0 0, .slice none 0 0, .slice pA pn pc] 46)) w4) F') (hp : p.length ≤ 1000000000) :
    RunsS w1 B w5 F' w1.heap.size w2.heap.size s ⟨[], [], [], p⟩ := by
  obtain ⟨R, ⟨o, qA, qn, qc, hv⟩, hR⟩ := hrn
  have hs1 := hb1.size
  have hs4 := h4.size
  have hs5 := st5.size
  rw [World.size_alloc] at hs4
  have hF4 : ∀ k, k < w2.heap.size + 1 → Fn (fun k => k = w1.heap.size) (w2.alloc (.cells #[.slice none 0 0, .slice none 0 0, .slice none 0 0, .slice pA pn pc] 46)) w4 k → k = w1.heap.size := fun k hk hF => by
    rcases hF with hF | hF
    · exact hF
    · rw [World.size_alloc] at hF; omega
  have hv4 := hv.step h4 (fun k hk e => by have := hR k hk; omega) (by omega)
  have hv5 := hv4.step st5 (fun k hk hF => by have h1 := hR k hk; have := hF4 k (by omega) hF; omega) (fun hF => by have := hF4 _ (by omega) hF; omega)
  refine ⟨h5, fun hF => ?_, by omega, ⟨R, ⟨o, qA, qn, qc, hv5⟩, fun k hk => by have := hR k hk; omega⟩, good_plan good_new p, hp⟩
  rcases st5.next _ hF with h9 | h9
  · have := hF4 _ (by omega) h9; omega
  · omega
section
attribute [local go_sem ↓] load_obs_mark
set_option maxRecDepth 100000 in
set_option maxHeartbeats 8000000 in
theorem runs21_any {w : World} {A : Option Addr} {n c : Nat} {acts : List AV} (hl : ActsAt w w.heap.size A n c acts) (hs : ∀ a ∈ acts, SmallA a) (hn : n ≤ 1000000000) {pA : Option Addr} {pn pc : Nat} {p : List Bool} (hp : Slc w w.heap.size 1 pA pn pc (p.map bl)) (hpn : pn ≤ 1000000000) :
    Calls Tryz.prog 4 #[.slice A n c, .slice pA pn pc] w fun e w' => e = .returned (.bool true) ∧ Below w.heap.size w w' := by
  have hsh := shown21_any w
  have H := Lib.hid hl
  have HS := Lib.hid hs
  have HP := Lib.hid hp
  have HPN := Lib.hid hpn
  have HLN := Lib.hid (show (acts.map AV.act).length = n by rw [List.length_map, hl.len])
  have HPL := Lib.hid (show p.length ≤ 1000000000 by have := hp.len; simp at this; omega)
  clear hl hs hp
  obtain ⟨r, hr⟩ : ∃ r, r = runM ⟨[], [], [], p⟩ (acts.map AV.act) := ⟨_, rfl⟩
  obtain ⟨t9, k9, z9⟩ := r
  have HR := Lib.hid hr
  clear hr
  go_enter Tryz.func4, Tryz.ntmps4
  go_upto_block 0 with (first
    | (go_at_call 10; refine hsh.mono ?_; clear hsh; rintro e w1 ⟨rfl, hb1⟩; have hnew := new_any w1; have HB1 := Lib.hid hb1; clear hb1)
    | (go_at_call 20; refine hnew.mono ?_; clear hnew; rintro e w2 ⟨rfl, hm, hb⟩; have hR0 := mrun_start hm hb; have hgl : w1.heap.size < w2.heap.size := hR0.lt _ rfl; have hR2 := hR0.below (bel_new w2 (.cells #[.slice none 0 0, .slice none 0 0, .slice none 0 0, .slice pA pn pc] 46)); have hb02 := HB1.out.trans (hb.mono HB1.out.size); have hrn := ref_new (W := w2) (HP.out.below hb02) hb02.size; have hb03 := hb02.trans ((bel_new w2 (.cells #[.slice none 0 0, .slice none 0 0, .slice none 0 0, .slice pA pn pc] 46)).mono hb02.size); have hpl := plan_any hR2.mach (HP.out.below hb03) hb03.size HPN.out; have HRN := Lib.hid hrn; have HR2 := Lib.hid hR2; have HGL := Lib.hid hgl; have HB2 := Lib.hid hb02; clear hm hb hR0 hgl hR2 hb02 hrn hb03)
    | (go_at_call 21; refine hpl.mono ?_; clear hpl; rintro e w4 ⟨rfl, hm4, hst4⟩; have hR4 := HR2.out.planned hm4 hst4; have hb04 := HB1.out.trans (hR4.bel.mono HB1.out.size); have hrun := run21_any hR4 (ActsK.low (H.out.below hb04) hb04.size) HS.out (fun k hk hF => by have := hR4.low k hF; have := HB1.out.size; have hk : k < w.heap.size := hk; omega) (fun k hk => by have := hb04.size; have hk : k < w.heap.size := hk; omega); rw [show (⟨newM.files, newM.users, newM.units, p⟩ : Mach) = ⟨[], [], [], p⟩ from rfl, ← HR.out] at hrun; have HR4 := Lib.hid (And.intro hR4 hst4); clear hm4 hst4 hR4 hb04)
    | (go_at_call 22; refine hrun.mono ?_; clear hrun; rintro e w5 ⟨rfl, F', h5, st5⟩; have HR5 := Lib.hid (And.intro h5 st5); clear h5 st5))
  have HST := Lib.hid (runs_start HB1.out HGL.out HRN.out HR4.out.2 HR5.out.1 HR5.out.2 HPL.out)
  go_cut [10, 11] (fun s10 s11 wx => s10 = .int .i64 (k9 : Int) ∧ s11 = .int .i64 z9 ∧ ∃ F, RunsS w1 w2.heap.size wx F w1.heap.size w2.heap.size t9 t9)
  case first =>
    go_wp2_with (fail)
    go_loopw [10, 11] (fun s10 s11 wr => ∃ k : Nat, k ≤ n ∧ s10 = .int .i64 (k : Int) ∧ s11 = .int .i64 0 ∧ Aside (∃ F t, RunsS w1 w2.heap.size wr F w1.heap.size w2.heap.size t9 t ∧ runM ⟨[], [], [], p⟩ ((acts.map AV.act).take k) = (t, k, 0))) (fun s10 _ _ => n - (intOf s10).toNat)
    case atStart => exact ⟨0, Nat.zero_le _, rfl, rfl, _, _, HST.out, rfl⟩
    case round =>
      obtain ⟨k, hk, rfl, rfl, hrel⟩ := hrel
      obtain ⟨F, t, hT, hto⟩ := hrel.out
      have hbw := HB1.out.trans (hT.run.bel.mono HB1.out.size)
      by_cases hlt : k < n
      · obtain ⟨b, off, rfl, hbB, hl, hcs⟩ := (H.out.below hbw).cells hlt
        have hat := (H.out.acts _ (List.getElem_mem hl)).below hbw
        have hsm := HS.out _ (List.getElem_mem hl)
        have hkl : k < (acts.map AV.act).length := by rw [HLN.out]; exact hlt
        have hget : (acts.map AV.act)[k] = acts[k].act := by rw [List.getElem_map]
        have HOK := Lib.hid (fun h0 => run_ok hkl hto (by rw [hget]; exact h0))
        have HBAD := Lib.hid (fun h0 => run_bad hkl hto (by rw [hget]; exact h0))
        rw [hget] at HOK HBAD
        generalize acts[k] = a at *
        obtain ⟨R, ⟨o, qA, qn, qc, hv⟩, hRl⟩ := hT.ref
        have hr0 := hT.r0
        have hs1 := HB1.out.size
        have hdo := refDo20_any hv hT.good hRl (by have := hv.lens.2.2.2.2.2; have := hT.plan; omega) a hat hbw.size hsm ⟨fun hn9 x hx => by obtain ⟨b9, o9, e9, hb9, _⟩ := hat.req.at_ hn9; rw [hx] at e9; rw [Option.some.inj e9]; simp only; omega, fun hn9 x hx => by obtain ⟨b9, o9, e9, hb9, _⟩ := hat.aft.at_ hn9; rw [hx] at e9; rw [Option.some.inj e9]; simp only; omega⟩
        have HT := Lib.hid hT
        have HRL := Lib.hid hRl
        obtain ⟨kind, name, ⟨fp, fk, fd, fA, fn, fc⟩, ⟨nm, st, rq, A1, n1, j1, af, A2, n2, j2⟩⟩ := a
        have c0 : wr.cell? ⟨b, off + k * 9, none⟩ = some (.int .i64 kind) := hcs 0 _ rfl
        have c1 : wr.cell? ⟨b, off + k * 9 + 1, none⟩ = some (.string ⟨name.toArray⟩) := hcs 1 _ rfl
        have c2 : wr.cell? ⟨b, off + k * 9 + 2, none⟩ = some (.string ⟨fp.toArray⟩) := hcs 2 _ rfl
        have c3 : wr.cell? ⟨b, off + k * 9 + 3, none⟩ = some (.int .i64 fk) := hcs 3 _ rfl
        have c4 : wr.cell? ⟨b, off + k * 9 + 4, none⟩ = some (.slice fA fn fc) := hcs 4 _ rfl
        have c5 : wr.cell? ⟨b, off + k * 9 + 5, none⟩ = some (.string ⟨nm.toArray⟩) := hcs 5 _ rfl
        have c6 : wr.cell? ⟨b, off + k * 9 + 6, none⟩ = some (.string ⟨st.toArray⟩) := hcs 6 _ rfl
        have c7 : wr.cell? ⟨b, off + k * 9 + 7, none⟩ = some (.slice A1 n1 j1) := hcs 7 _ rfl
        have c8 : wr.cell? ⟨b, off + k * 9 + 8, none⟩ = some (.slice A2 n2 j2) := hcs 8 _ rfl
        unfold avArr at hdo
        simp only at hdo
        clear hcs hat hsm hrel hT hto hbw hget hv hRl hr0 hs1
        by_cases h0 : (doM t (⟨kind, name, ⟨fp, fk, fd, fA, fn, fc⟩, ⟨nm, st, rq, A1, n1, j1, af, A2, n2, j2⟩⟩ : AV).act).2 = 0
        · have HX := Lib.hid (HOK.out h0)
          have H0 := Lib.hid h0
          clear h0
          go_wp2_with (go_at_call 23; refine hdo.mono ?_; clear hdo; intro e6 w6 hq; obtain ⟨rfl, h6⟩ := HT.out.ref_ HRL.out hq; have H6 := Lib.hid h6; clear hq h6; rw [H0.out])
          exact ⟨⟨k + 1, by omega, by go_num, rfl, _, _, H6.out, HX.out⟩, by simp [intOf]; omega⟩
        · have HX := Lib.hid (HR.out.trans (HBAD.out h0))
          obtain ⟨z, hz⟩ : ∃ z, z = (doM t (⟨kind, name, ⟨fp, fk, fd, fA, fn, fc⟩, ⟨nm, st, rq, A1, n1, j1, af, A2, n2, j2⟩⟩ : AV).act).2 := ⟨_, rfl⟩
          have hz0 : (z == 0) = false := by rw [beq_eq_false_iff_ne, hz]; exact h0
          have hz1 : ¬ z = 0 := by rw [hz]; exact h0
          have HZ := Lib.hid hz
          clear h0 hz
          go_wp2_with (go_at_call 23; refine hdo.mono ?_; clear hdo; intro e6 w6 hq; obtain ⟨rfl, h6⟩ := HT.out.ref_ HRL.out hq; have H6 := Lib.hid h6; clear hq h6; rw [← HZ.out])
          go_meet
          case rel =>
            have hx := HX.out
            simp only [Prod.mk.injEq] at hx
            obtain ⟨e1, e2, e3⟩ := hx
            exact ⟨by rw [e2], by rw [HZ.out, e3], F, by have := H6.out; rw [← e1] at this; exact this⟩
      · obtain rfl : k = n := by omega
        have HX := Lib.hid (show (t9, k9, z9) = (t, k, 0) by rw [HR.out, ← hto, List.take_of_length_le (by rw [HLN.out]; exact Nat.le_refl _)])
        have HT := Lib.hid hT
        clear hrel hT hto hbw
        go_wp2_with (fail)
        go_meet
        case rel =>
          have hx := HX.out
          simp only [Prod.mk.injEq] at hx
          obtain ⟨e1, e2, e3⟩ := hx
          exact ⟨by rw [e2], by rw [e3], F, by have := HT.out; rw [← e1] at this; exact this⟩
  case rest =>
    obtain ⟨rfl, rfl, F, hT⟩ := hcut
    have hd := hT.below (Below.refl _ _).drew
    obtain ⟨R, hra, -⟩ := hd.ref
    obtain ⟨o2, e1, e2, e3, ht⟩ := ref_tells hra
    have hl1 := (ht _ (Below.refl _ _)).1
    have hse := hd.run.seen
    have E1 := Lib.hid e1
    have E2 := Lib.hid e2
    have E3 := Lib.hid e3
    have HT := Lib.hid ht
    have HD := Lib.hid hd
    unfold ovArr at hl1
    clear e1 e2 e3 ht hd hT hra
    go_wp2_with (fail)
    have HT1 := Lib.hid (fun (W : World) (hW : Below wc.drew.heap.size wc.drew W) => show (LoadS 28 (.pointer (some ⟨w2.heap.size, 0, none⟩))).run Tryz.prog W = .ok (.agg #[.slice o2.A o2.n o2.c, .slice o2.A2 o2.n2 o2.c2, .slice o2.A3 o2.n3 o2.c3]) W from (HT.out W hW).1)
    go_region_held (fun W' => (LoadS 28 (.pointer (some ⟨w2.heap.size, 0, none⟩))).run Tryz.prog W' = .ok (.agg #[.slice o2.A o2.n o2.c, .slice o2.A2 o2.n2 o2.c2, .slice o2.A3 o2.n3 o2.c3]) W') (first | exact HT1.out _ HB15B.out | exact HT1.out _ HB14B.out | exact HT1.out _ (Below.refl _ _)) (first
      | (go_at_call 25; refine hse.mono ?_; clear hse; rintro e w14 ⟨A, n, c, es, A2, n2, c2, A3, n3, c3, us, rfl, ho⟩; have hsm := same20_any ho.kept.at_ (HT.out _ ho.bel).2 (Nat.le_refl _); rw [sameO_of (ho.ents.trans E1.out.symm) E2.out.symm (ho.srvs.trans E3.out.symm)] at hsm; have HB14 := Lib.hid (HD.out.below ho.bel); have HB14B := Lib.hid ho.bel; unfold ovArr at hsm; clear ho)
      | (go_at_call 24; refine hsm.mono ?_; clear hsm; rintro e w15 ⟨rfl, hb15⟩; have HB15 := Lib.hid (HB14.out.below hb15); have HB15B := Lib.hid (HB14B.out.trans (hb15.mono HB14B.out.size)); clear hb15))
    all_goals go_wp2_with (fail)
    all_goals go_ret
    all_goals exact ⟨rfl, HB1.out.trans (HB15.out.run.bel.mono HB1.out.size)⟩
end
end Go.Proofs.YtibndaianhlcaaaGreatDoor
namespace Go.Proofs.YtibndaianhlcaaaGreatDoor
open Go.RowKit Go.Sort Go.Shelf
set_option linter.unusedVariables false
set_option linter.unusedSimpArgs false

/-- Names that memory can hold. -/
structure NamesM (s : Mach) : Prop where
  files : ∀ x ∈ s.files, x.path.length ≤ 1000000000
  users : ∀ n ∈ s.users, n.length ≤ 1000000000
  units : ∀ u ∈ s.units, u.name.length ≤ 1000000000
structure NamesP (a : ActP) : Prop where
  name : a.name.length ≤ 1000000000
  path : a.file.path.length ≤ 1000000000
  unit : a.unit.name.length ≤ 1000000000
theorem names_ite {c : Prop} [Decidable c] {x y : Mach × Int} (h1 : NamesM x.1) (h2 : NamesM y.1) : NamesM (if c then x else y).1 := by
  split
  · exact h1
  · exact h2
theorem doM_names {s : Mach} (h : NamesM s) {a : ActP} (ha : NamesP a) : NamesM (doM s a).1 := by
  obtain ⟨h1, h2, h3⟩ := h
  unfold doM doStop doFile doUser doStart
  repeat' first
    | apply names_ite
    | exact ⟨h1, h2, h3⟩
    | exact ⟨h1, h2, fun u hu => h3 u (List.mem_of_mem_eraseIdx hu)⟩
    | exact ⟨fun x hx => h1 x (List.mem_filter.1 hx).1, h2, h3⟩
    | exact ⟨h1, fun x hx => h2 x (List.mem_filter.1 hx).1, h3⟩
    | exact ⟨fun x hx => by rcases List.mem_or_eq_of_mem_set hx with h | rfl; exact h1 x h; exact ha.path, h2, h3⟩
    | exact ⟨fun x hx => by rcases mem_ins hx with h | rfl; exact h1 x h; exact ha.path, h2, h3⟩
    | exact ⟨h1, fun x hx => by rcases mem_ins hx with h | rfl; exact h2 x h; exact ha.name, h3⟩
    | exact ⟨h1, h2, fun u hu => by rcases List.mem_append.1 hu with h | h; exact h3 u h; rw [List.mem_singleton.1 h]; exact ha.unit⟩
theorem runM_names : ∀ {l : List ActP} {s : Mach}, NamesM s → (∀ a ∈ l, NamesP a) → NamesM (runM s l).1
  | [], s, h, _ => h
  | a :: l, s, h, hl => by
    have h1 := doM_names h (hl a List.mem_cons_self)
    unfold runM
    split
    · exact runM_names h1 fun x hx => hl x (List.mem_cons_of_mem _ hx)
    · exact h1
theorem names_new : NamesM newM := ⟨(fun x h => by cases h), (fun x h => by cases h), (fun x h => by cases h)⟩
/-- A step whose texts memory can hold. -/
structure PlainS (a : ActP) : Prop where
  name : a.name.length ≤ 1000000000
  path : a.file.path.length ≤ 1000000000
  data : a.file.data.length ≤ 1000000000
  start : a.unit.start.length ≤ 1000000000
  texts : ∀ t ∈ a.unit.name :: (a.unit.req ++ a.unit.aft), t.length ≤ 1000000000
  lens : a.unit.req.length ≤ 1000000000 ∧ a.unit.aft.length ≤ 1000000000
theorem PlainS.names {a : ActP} (h : PlainS a) : NamesP a := ⟨h.name, h.path, h.texts _ List.mem_cons_self⟩
theorem small_of {W : World} {B : Nat} {a : AV} (h : ActAt W B a) (hp : PlainS a.act) : SmallA a := by
  obtain ⟨k, nm, ⟨fp, fk, fd, fA, fn, fc⟩, ⟨un, us, ur, uA, u1, uc, ua, uB, u2, ud⟩⟩ := a
  have e1 : fd.length = fn := by have := h.data.len; simpa using this
  have e2 : ur.length = u1 := by have := h.req.len; simpa using this
  have e3 : ua.length = u2 := by have := h.aft.len; simpa using this
  have d := hp.data
  have l := hp.lens
  simp only [AV.act, EV.ent, SV.srv] at d l
  exact ⟨⟨by show fn ≤ _; omega, by show u1 ≤ _; omega, by show u2 ≤ _; omega⟩, hp.name, hp.path, hp.start, hp.texts⟩
theorem plain_name (k : Int) {n : Txt} (h : n.length ≤ 1000000000) : PlainS ⟨k, n, ent0, srv0⟩ := ⟨h, by show ([] : Txt).length ≤ _; simp, by show ([] : Txt).length ≤ _; simp, by show ([] : Txt).length ≤ _; simp, (fun t ht => by rcases List.mem_cons.1 ht with h | h; rw [h]; show ([] : Txt).length ≤ _; simp; cases h), by show ([] : List Txt).length ≤ _ ∧ ([] : List Txt).length ≤ _; simp⟩
/-- The texts of a system that is asked for. -/
structure SmallS (s : SysP) : Prop where
  files : ∀ x ∈ s.files, x.path.length ≤ 1048576 ∧ x.data.length ≤ 1048576
  users : ∀ n ∈ s.users, n.length ≤ 1048576
  units : ∀ u ∈ s.units, u.name.length ≤ 1048576 ∧ u.start.length ≤ 1048576 ∧ (∀ t ∈ u.req ++ u.aft, t.length ≤ 1048576) ∧ u.req.length ≤ 1048576 ∧ u.aft.length ≤ 1048576
theorem acts_plain {m : Mach} (hm : NamesM m) {s : SysP} (hs : SmallS s) : ∀ a ∈ actsS m.sys s, PlainS a := by
  intro a ha
  unfold actsS Mach.sys at ha
  simp only [List.mem_append] at ha
  rcases ha with ha | ha | ha | ha | ha | ha
  · obtain ⟨u, hu, rfl⟩ := List.mem_map.1 ha
    exact plain_name 1 (hm.units u (List.mem_of_mem_drop (List.mem_reverse.1 hu)))
  · obtain ⟨x, hx, rfl⟩ := List.mem_map.1 ha
    exact plain_name 2 (hm.files x (List.mem_filter.1 hx).1)
  · obtain ⟨x, hx, rfl⟩ := List.mem_map.1 ha
    exact plain_name 3 (hm.users x (List.mem_filter.1 hx).1)
  · obtain ⟨x, hx, rfl⟩ := List.mem_map.1 ha
    obtain ⟨e1, e2⟩ := hs.files x (List.mem_filter.1 hx).1
    exact ⟨by show x.path.length ≤ _; omega, by show x.path.length ≤ _; omega, by show x.data.length ≤ _; omega, by show ([] : Txt).length ≤ _; simp, (fun t ht => by rcases List.mem_cons.1 ht with h | h; rw [h]; show ([] : Txt).length ≤ _; simp; cases h), by show ([] : List Txt).length ≤ _ ∧ ([] : List Txt).length ≤ _; simp⟩
  · obtain ⟨x, hx, rfl⟩ := List.mem_map.1 ha
    exact plain_name 5 (Nat.le_trans (hs.users x (List.mem_filter.1 hx).1) (by decide))
  · obtain ⟨u, hu, rfl⟩ := List.mem_map.1 ha
    obtain ⟨e1, e2, e3, e4, e5⟩ := hs.units u (List.mem_of_mem_drop hu)
    exact ⟨by show u.name.length ≤ _; omega, by show ([] : Txt).length ≤ _; simp, by show ([] : Txt).length ≤ _; simp, by show u.start.length ≤ _; omega, (fun t ht => by rcases List.mem_cons.1 ht with h | h; rw [h]; show u.name.length ≤ _; omega; exact Nat.le_trans (e3 t h) (by decide)), by show u.req.length ≤ _ ∧ u.aft.length ≤ _; omega⟩
theorem SmallO.sys {w : World} {B : Nat} {o : OV} (h : SmallO o) (ho : ObsAt w B o) : SmallS (sysO o) := by
  refine ⟨fun x hx => ?_, h.users, fun u hu => ?_⟩
  · obtain ⟨e, he, rfl⟩ := List.mem_map.1 hx
    exact h.ents e he
  · obtain ⟨v, hv, rfl⟩ := List.mem_map.1 hu
    have s := h.units v hv
    have l1 := (ho.units.req v hv).len
    have l2 := (ho.units.aft v hv).len
    have n1 := s.n
    have n2 := s.n2
    simp at l1 l2
    exact ⟨s.name, s.start, s.texts, by show v.req.length ≤ _; omega, by show v.aft.length ≤ _; omega⟩
theorem toM_names {m : Mach} (hm : NamesM m) {s : SysP} (hs : SmallS s) : NamesM (toM m s).1 := by
  unfold toM
  split
  · exact runM_names hm fun a ha => (acts_plain hm hs a ha).names
  · exact hm
theorem ObsAt.more3 {w : World} {B B' : Nat} {o : OV} (h : ObsAt w B o) (hB : B ≤ B') : ObsAt w B' o :=
  ⟨⟨h.files.slc.more hB, h.files.len, fun e he => (h.files.data e he).more hB⟩, h.users.more hB, ⟨h.units.slc.more hB, h.units.len, fun u hu => (h.units.req u hu).more hB, fun u hu => (h.units.aft u hu).more hB⟩⟩
theorem obs_counts {w w' : World} {s : Mach} {A : Option Addr} {n c : Nat} {es : List EV} {A2 : Option Addr} {n2 c2 : Nat} {A3 : Option Addr} {n3 c3 : Nat} {us : List SV} (hg : GoodM s) (h : ObsOut w w' s A n c es A2 n2 c2 A3 n3 c3 us) : n ≤ 1048576 ∧ n2 ≤ 1048576 ∧ n3 ≤ 1048576 := by
  have k := h.kept.at_
  have l1 := k.files.len
  have l2 := k.users.len
  have l3 := k.units.len
  have e1 := congrArg List.length h.ents
  have e3 := congrArg List.length h.srvs
  simp at l1 l2 l3 e1 e3
  have := hg.nf
  have := hg.nu
  have := hg.nn
  omega
theorem sys_seen {w w' : World} {s : Mach} {A : Option Addr} {n c : Nat} {es : List EV} {A2 : Option Addr} {n2 c2 : Nat} {A3 : Option Addr} {n3 c3 : Nat} {us : List SV} (h : ObsOut w w' s A n c es A2 n2 c2 A3 n3 c3 us) : sysO ⟨A, n, c, es, A2, n2, c2, s.users, A3, n3, c3, us⟩ = s.sys := by
  unfold sysO Mach.sys
  rw [h.ents, h.srvs]
theorem acts_kept {w w' : World} {A : Option Addr} {n c : Nat} {l : List AV} (h : ActsOut w w' A n c l) : ActsK w' (fun k => w.heap.size ≤ k ∧ k < w'.heap.size) A n c l :=
  ⟨h.at_, fun _ => h.row, fun a ha _ x hx => h.out a ha x (.inl hx), fun a ha _ x hx => h.out a ha x (.inr (.inl hx)), fun a ha _ x hx => h.out a ha x (.inr (.inr hx))⟩
/-- What To gives. -/
def ToPost (w : World) (B : Nat) (W : World) (F : Nat → Prop) (g : Nat) (r : Mach × Int) : Ending → World → Prop := fun e w' => e = .returned (.int .i64 r.2) ∧ ∃ F', MRun w B w' F' g r.1 ∧ Step W w' F F'
set_option maxRecDepth 100000 in
set_option maxHeartbeats 4000000 in
theorem to21_any {w W : World} {B g : Nat} {F : Nat → Prop} {m : Mach} (h : MRun w B W F g m) (hm : NamesM m) {C : Nat} {o : OV} (ho : ObsAt W C o) (hC : C ≤ W.heap.size) (hs : SmallO o) :
    Calls Tryz.prog 27 #[.pointer (some ⟨g, 0, none⟩), .agg (ovArr o)] W (ToPost w B W F g (toM m (sysO o))) := by
  obtain ⟨W0, hW0⟩ : ∃ W0, W0 = W.alloc (.cells (ovArr o) 26) := ⟨_, rfl⟩
  have hb0 : Below W.heap.size W W0 := by rw [hW0]; exact bel_new _ _
  have hG0 : Blk W0 W.heap.size 26 (ovArr o) := by rw [hW0]; exact Blk.new _ _ _
  have hr := right21_any (ho.below (hb0.mono hC)) (Nat.le_trans hC hb0.size) hs
  have HSS := Lib.hid (hs.sys ho)
  have H := Lib.hid h
  have HM := Lib.hid hm
  have HO := Lib.hid ho
  have HC := Lib.hid hC
  have HS := Lib.hid hs
  have HK := Lib.hid (fun (W' : World) (hW : Below W0.heap.size W0 W') => hG0.below hW hG0.lt)
  have HB0 := Lib.hid hb0
  rw [hW0] at hr
  obtain ⟨p, hp⟩ : ∃ p, p = sysO o := ⟨_, rfl⟩
  have HPS := Lib.hid hp
  rw [← hp] at hr ⊢
  obtain ⟨A, n, c, es, A2, n2, c2, us, A3, n3, c3, vs⟩ := o
  unfold ovArr at hr HK hW0 ⊢
  simp only at hr HK hW0 ⊢
  have HW0 := Lib.hid hW0
  clear h hm ho hC hs hb0 hG0 hW0 hp
  cases hrt : rightS p with
  | false =>
    have HX := Lib.hid (show toM m p = (m, 70) by unfold toM; rw [hrt]; rfl)
    rw [hrt] at hr
    clear hrt
    go_enter Tryz.func27, Tryz.ntmps27
    go_wp2_with (go_at_call 15; refine hr.mono ?_; clear hr; rintro e2 w2 ⟨rfl, hb2⟩; rw [← HW0.out] at hb2)
    go_ret
    have hb := HB0.out.trans (hb2.mono HB0.out.size)
    unfold ToPost
    rw [HX.out]
    exact ⟨rfl, F, H.out.below hb, Step.of_below hb F⟩
  | true =>
    have HX := Lib.hid (show toM m p = ((runM m (actsS m.sys p)).1, (runM m (actsS m.sys p)).2.2) by unfold toM; rw [hrt]; rfl)
    have HAR := Lib.hid (show actsR m.sys p = actsS m.sys p by unfold actsR; rw [hrt]; rfl)
    rw [hrt] at hr
    clear hrt
    obtain ⟨r, hrr⟩ : ∃ r, r = runM m (actsS m.sys p) := ⟨_, rfl⟩
    rw [← hrr] at HX
    obtain ⟨t9, k9, z9⟩ := r
    have HR := Lib.hid hrr
    clear hrr
    go_enter Tryz.func27, Tryz.ntmps27
    go_wp2_with (go_at_call 15; refine hr.mono ?_; clear hr; rintro e2 w2 ⟨rfl, hb2⟩; rw [← HW0.out] at hb2; have hb2' := hb2.trans (Below.refl _ w2).drew; have hG2 := HK.out _ hb2'; have hbw := HB0.out.trans (hb2'.mono HB0.out.size); have hse := (H.out.below hbw).seen; have y0 := hG2.cell 0; have y1 := hG2.cell 1; have y2 := hG2.cell 2; simp only [List.getElem?_toArray, List.getElem?_cons_zero, List.getElem?_cons_succ] at y0 y1 y2; have HB2 := Lib.hid hb2'; have HBW := Lib.hid hbw; clear hb2 hb2' hG2 hbw)
    have HYS := Lib.hid (fun (W' : World) (h9 : Blk W' W.heap.size 26 #[.slice A n c, .slice A2 n2 c2, .slice A3 n3 c3]) => show W'.cell? ⟨W.heap.size, 0, none⟩ = some (.slice A n c) ∧ W'.cell? ⟨W.heap.size, 1, none⟩ = some (.slice A2 n2 c2) ∧ W'.cell? ⟨W.heap.size, 2, none⟩ = some (.slice A3 n3 c3) from ⟨h9.cell 0, h9.cell 1, h9.cell 2⟩)
    go_region_held (fun W' => W'.cell? ⟨W.heap.size, 0, none⟩ = some (.slice A n c) ∧ W'.cell? ⟨W.heap.size, 1, none⟩ = some (.slice A2 n2 c2) ∧ W'.cell? ⟨W.heap.size, 2, none⟩ = some (.slice A3 n3 c3)) (first | exact HYS.out _ HY5.out | exact HYS.out _ (HK.out _ HY4.out) | exact HYS.out _ (HK.out _ HY3.out) | exact ⟨y0, y1, y2⟩) (first
      | (go_at_call 25; refine hse.mono ?_; clear hse; rintro e w3 ⟨Ax, nx, cx, ex, Ax2, nx2, cx2, Ax3, nx3, cx3, ux, rfl, ho⟩; have HOB := Lib.hid ho; have HY3 := Lib.hid (HB2.out.trans (ho.bel.mono HB2.out.size)); have hbo := HBW.out.trans (ho.bel.mono HBW.out.size); have hac := acts21_any (o := ⟨Ax, nx, cx, ex, Ax2, nx2, cx2, m.users, Ax3, nx3, cx3, ux⟩) ho.kept.at_ ((HO.out.below (hbo.mono HC.out)).more3 (Nat.le_trans HC.out hbo.size)) (Nat.le_refl _) HS.out (obs_counts H.out.good ho); rw [← HPS.out, sys_seen ho, HAR.out] at hac; have HBO := Lib.hid hbo; unfold ovArr at hac; simp only at hac; clear ho hbo)
      | (go_at_call 28; refine hac.mono ?_; clear hac; rintro e w4 ⟨Ay, ny, cy, ly, rfl, hly, hao⟩; have HY4 := Lib.hid (HY3.out.trans (hao.bel.mono HY3.out.size)); have hb4 := HBO.out.trans (hao.bel.mono HBO.out.size); have hrun := run21_any (H.out.below hb4) (acts_kept hao) (fun a ha => small_of (hao.at_.acts a ha) (acts_plain HM.out (HPS.out ▸ HSS.out) a.act (hly ▸ List.mem_map.2 ⟨a, ha, rfl⟩))) (fun k hk hF => by have h1 := H.out.lt k hF; have h2 := HBO.out.size; omega) (fun k hk => hk.2); rw [hly, ← HR.out] at hrun; have HB4 := Lib.hid hb4; clear hao hly hb4)
      | (go_at_call 22; refine hrun.mono ?_; clear hrun; rintro e w5 ⟨rfl, F', h5, st5⟩; have HR5 := Lib.hid (And.intro h5 st5); have HY5 := Lib.hid ((HK.out _ HY4.out).step st5 (fun hF => Nat.lt_irrefl _ (H.out.lt _ hF))); clear h5 st5))
    go_wp2_with (fail)
    go_ret
    unfold ToPost
    rw [HX.out]
    exact ⟨rfl, F', HR5.out.1, (Step.of_below HB4.out F).trans HR5.out.2⟩
end Go.Proofs.YtibndaianhlcaaaGreatDoor
