/- activate.empty and activate.may at any step. The walks of (*strings.Builder).copyCheck and WriteString at this dump: the dump's copyCheck has no panic of its own (it is cut), so that the shelf's contract does not fit. Contracts of the library laid at this dump. -/
import Derived.Test.YtibndaianhlcaaaGreatDoorPart26
import Derived.Test.YtibndaianhlcaaaGreatDoorPart5
import Derived.Shelf.Strings.BuilderK
import Derived.Shelf.LaysM
import Derived.Shelf.LaysC
import Derived.Ground.GgwProg
import Derived.Ground.SlgnProg
import Derived.Ground.SlgfProg
import Derived.Test.YtibndaianhlcaaaGreatDoorProg
namespace Go.Proofs.YtibndaianhlcaaaGreatDoor
open Go.RowKit Go.Sort Go.Shelf
set_option linter.unusedVariables false
set_option linter.unusedSimpArgs false

/-- empty, test by test. -/
def emptyV (k4 p k0 n0 k6 un us ls : Bool) : Bool := (k4 || (p && k0 && n0)) && (k6 || (un && us && ls))
theorem emptyV_act {w : World} {B : Nat} {a : AV} (h : ActAt w B a) : emptyV (a.kind == 4) (a.file.path == []) (a.file.kind == 0) ((a.file.n : Int) == 0) (a.kind == 6) (a.unit.name == []) (a.unit.start == []) (((a.unit.n : Int) + (a.unit.n2 : Int)) == 0) = emptyA a.act := by
  have h1 : a.file.data.length = a.file.n := by have := h.data.len; simpa using this
  have h2 : a.unit.req.length = a.unit.n := by have := h.req.len; simpa using this
  have h3 : a.unit.aft.length = a.unit.n2 := by have := h.aft.len; simpa using this
  unfold emptyV emptyA
  show _ = ((decide (a.kind = 4) || decide (a.file.path = [] ∧ a.file.kind = 0 ∧ a.file.data = [])) && (decide (a.kind = 6) || decide (a.unit.name = [] ∧ a.unit.start = [] ∧ a.unit.req = [] ∧ a.unit.aft = [])))
  have e1 : (((a.file.n : Nat) : Int) == 0) = decide (a.file.data = []) := by
    rw [Bool.eq_iff_iff, beq_iff_eq, decide_eq_true_iff]
    constructor
    · intro h9; exact List.eq_nil_of_length_eq_zero (by omega)
    · intro h9; rw [h9] at h1; simp at h1; omega
  have e2 : (((a.unit.n : Int) + (a.unit.n2 : Int)) == 0) = (decide (a.unit.req = []) && decide (a.unit.aft = [])) := by
    rw [Bool.eq_iff_iff, beq_iff_eq, Bool.and_eq_true, decide_eq_true_iff, decide_eq_true_iff]
    constructor
    · intro h9; exact ⟨List.eq_nil_of_length_eq_zero (by omega), List.eq_nil_of_length_eq_zero (by omega)⟩
    · rintro ⟨h8, h9⟩; rw [h8] at h2; rw [h9] at h3; simp at h2 h3; omega
  rw [e1, e2]
  have b1 : ∀ x y : Int, (x == y) = decide (x = y) := fun x y => by rw [Bool.eq_iff_iff, beq_iff_eq, decide_eq_true_iff]
  have b2 : ∀ x : Txt, (x == []) = decide (x = []) := fun x => by rw [Bool.eq_iff_iff, beq_iff_eq, decide_eq_true_iff]
  rw [b1, b1, b1, b2, b2, b2]
  simp only [Bool.decide_and, Bool.and_assoc]
/-- Which tests are made, and what comes out. -/
theorem empty_cases (k4 p k0 n0 k6 un us ls : Bool) :
    ((k4 = false ∧ p = false) ∨ (k4 = false ∧ p = true ∧ k0 = false) ∨ (k4 = false ∧ p = true ∧ k0 = true ∧ n0 = false)) ∨
    ((k4 = true ∨ (k4 = false ∧ p = true ∧ k0 = true ∧ n0 = true)) ∧ (k6 = true ∨ (k6 = false ∧ un = false) ∨ (k6 = false ∧ un = true ∧ us = false) ∨ (k6 = false ∧ un = true ∧ us = true))) := by
  cases k4 <;> cases p <;> cases k0 <;> cases n0 <;> cases k6 <;> cases un <;> cases us <;> simp
set_option maxRecDepth 100000 in
set_option maxHeartbeats 4000000 in
theorem empty21_any {w : World} {B : Nat} {a : AV} (h : ActAt w B a) (hu : a.unit.n ≤ 1000000000 ∧ a.unit.n2 ≤ 1000000000) :
    Calls Tryz.prog 100 #[.agg (avArr a)] w fun e w' => e = .returned (.bool (emptyA a.act)) ∧ Below w.heap.size w w' := by
  rw [← emptyV_act h]
  clear h
  obtain ⟨kind, name, ⟨p, fk, fd, fA, fn, fc⟩, ⟨un, us, rq, uA, u1, uc, af, uB, u2, ud⟩⟩ := a
  have hb : Below w.heap.size w ((w.alloc (.cells (avArr ⟨kind, name, ⟨p, fk, fd, fA, fn, fc⟩, ⟨un, us, rq, uA, u1, uc, af, uB, u2, ud⟩⟩) 61)).alloc (.cells (svArr ⟨un, us, rq, uA, u1, uc, af, uB, u2, ud⟩) 59)) := (bel_new _ _).alloc (by simp) _
  unfold avArr at hb ⊢
  unfold svArr at hb
  simp only at hb hu ⊢
  have t1 : (ByteArray.mk p.toArray).toList = p := Go.ByteArray.toList_eq _
  have t2 : (ByteArray.mk un.toArray).toList = un := Go.ByteArray.toList_eq _
  have t3 : (ByteArray.mk us.toArray).toList = us := Go.ByteArray.toList_eq _
  have hw : IntKind.i64.wrap ((u1 : Int) + (u2 : Int)) = (u1 : Int) + (u2 : Int) := IntWalk.i64_in _ (by omega)
  have hq1 := hu.1
  have hq2 := hu.2
  have hcs := empty_cases (kind == 4) (p == []) (fk == 0) ((fn : Int) == 0) (kind == 6) (un == []) (us == []) (((u1 : Int) + (u2 : Int)) == 0)
  have HB := Lib.hid hb
  clear hb hu
  generalize hls : (((u1 : Int) + (u2 : Int)) == 0) = ls at hcs ⊢
  have HV := Lib.hid (show ∀ k4 p' k0 n0 k6 un' us' : Bool, emptyV k4 p' k0 n0 k6 un' us' ls = ((k4 || (p' && k0 && n0)) && (k6 || (un' && us' && ls))) from fun _ _ _ _ _ _ _ => rfl)
  rcases hcs with (⟨h1, h2⟩ | ⟨h1, h2, h3⟩ | ⟨h1, h2, h3, h4⟩) | ⟨(h1 | ⟨h1, h2, h3, h4⟩), (g1 | ⟨g1, g2⟩ | ⟨g1, g2, g3⟩ | ⟨g1, g2, g3⟩)⟩
  all_goals
    go_enter Tryz.func100, Tryz.ntmps100
    go_wp2_with (fail)
    go_ret
    refine ⟨?_, HB.out⟩
    rw [HV.out]
    simp_all
/-- A step that needs no file and no unit. -/
theorem shape_plain {w : World} {B : Nat} {a : AV} (h : ActAt w B a) (he : emptyA a.act = true) (h4 : ¬ a.kind = 4) (h6 : ¬ a.kind = 6) : ∃ eA ec uA uc uB ud, a = ⟨a.kind, a.name, ev1 eA ec, sv1 uA uc uB ud⟩ := by
  have h1 : a.file.data.length = a.file.n := by have := h.data.len; simpa using this
  have h2 : a.unit.req.length = a.unit.n := by have := h.req.len; simpa using this
  have h3 : a.unit.aft.length = a.unit.n2 := by have := h.aft.len; simpa using this
  obtain ⟨kind, name, ⟨p, fk, fd, fA, fn, fc⟩, ⟨un, us, rq, uA, u1, uc, af, uB, u2, ud⟩⟩ := a
  unfold emptyA at he
  simp only at h4 h6 h1 h2 h3
  rw [Bool.and_eq_true, Bool.or_eq_true, Bool.or_eq_true] at he
  obtain ⟨he1, he2⟩ := he
  rcases he1 with he1 | he1
  · exact absurd (of_decide_eq_true he1) h4
  rcases he2 with he2 | he2
  · exact absurd (of_decide_eq_true he2) h6
  · obtain ⟨r1, r2, r3⟩ := of_decide_eq_true he1
    obtain ⟨r4, r5, r6, r7⟩ := of_decide_eq_true he2
    simp only [AV.act, EV.ent, SV.srv] at r1 r2 r3 r4 r5 r6 r7
    subst r1 r2 r3 r4 r5 r6 r7
    simp only [List.length_nil] at h1 h2 h3
    subst h1 h2 h3
    exact ⟨fA, fc, uA, uc, uB, ud, rfl⟩
theorem shape_file {w : World} {B : Nat} {a : AV} (h : ActAt w B a) (he : emptyA a.act = true) (h4 : a.kind = 4) : ∃ uA uc uB ud, a = ⟨4, a.name, a.file, sv1 uA uc uB ud⟩ := by
  have h2 : a.unit.req.length = a.unit.n := by have := h.req.len; simpa using this
  have h3 : a.unit.aft.length = a.unit.n2 := by have := h.aft.len; simpa using this
  obtain ⟨kind, name, f, ⟨un, us, rq, uA, u1, uc, af, uB, u2, ud⟩⟩ := a
  simp only at h4 h2 h3
  subst h4
  unfold emptyA at he
  rw [Bool.and_eq_true, Bool.or_eq_true, Bool.or_eq_true] at he
  obtain ⟨_, he2⟩ := he
  rcases he2 with he2 | he2
  · exact absurd (show (4 : Int) = 6 from of_decide_eq_true he2) (by decide)
  · obtain ⟨r4, r5, r6, r7⟩ := of_decide_eq_true he2
    simp only [AV.act, EV.ent, SV.srv] at r4 r5 r6 r7
    subst r4 r5 r6 r7
    simp only [List.length_nil] at h2 h3
    subst h2 h3
    exact ⟨uA, uc, uB, ud, rfl⟩
theorem shape_unit {w : World} {B : Nat} {a : AV} (h : ActAt w B a) (he : emptyA a.act = true) (h6 : a.kind = 6) : ∃ eA ec, a = ⟨6, a.name, ev1 eA ec, a.unit⟩ := by
  have h1 : a.file.data.length = a.file.n := by have := h.data.len; simpa using this
  obtain ⟨kind, name, ⟨p, fk, fd, fA, fn, fc⟩, u⟩ := a
  simp only at h6 h1
  subst h6
  unfold emptyA at he
  rw [Bool.and_eq_true, Bool.or_eq_true, Bool.or_eq_true] at he
  obtain ⟨he1, _⟩ := he
  rcases he1 with he1 | he1
  · exact absurd (show (6 : Int) = 4 from of_decide_eq_true he1) (by decide)
  · obtain ⟨r1, r2, r3⟩ := of_decide_eq_true he1
    simp only [AV.act, EV.ent, SV.srv] at r1 r2 r3
    subst r1 r2 r3
    simp only [List.length_nil] at h1
    subst h1
    exact ⟨fA, fc, rfl⟩
theorem apart_any {F : Nat → Prop} {k k' : Int} {n m : Txt} {f f' : EV} {u : SV} (h : ActApart F ⟨k, n, f, u⟩) : ActApart F ⟨k', m, f', u⟩ := ⟨h.req, h.aft⟩
theorem ent_one {W : World} {g : Nat} {p : Txt} {k : Int} {d : Txt} {A : Option Addr} {n c B : Nat} (h : Blk W g 35 #[.string ⟨p.toArray⟩, .int .i64 k, .slice A n c]) (hd : Slc W B 1 A n c (d.map bv)) (hB : B ≤ g + 1) : EntsAt W (g + 1) (some ⟨g, 0, none⟩) 1 1 [⟨p, k, d, A, n, c⟩] :=
  ⟨⟨rfl, Nat.le_refl _, by decide, fun _ => ⟨g, 0, rfl, Nat.lt_succ_self _, fun j v hj => by rw [Nat.zero_add, h.cell]; simpa [evCells] using hj⟩⟩, rfl, fun e he => by rw [List.mem_singleton.1 he]; exact hd.more hB⟩
set_option maxRecDepth 100000 in
set_option maxHeartbeats 4000000 in
theorem mayR_any {w : World} {B : Nat} {eA : Option Addr} {ec : Nat} {uA : Option Addr} {uc : Nat} {uB : Option Addr} {ud : Nat} (name : Txt) (hact : ActAt w B ⟨2, name, ev1 eA ec, sv1 uA uc uB ud⟩) (hB : B ≤ w.heap.size) (hl : name.length ≤ 1000000000) :
    Calls Tryz.prog 69 #[.agg (avArr ⟨2, name, ev1 eA ec, sv1 uA uc uB ud⟩)] w fun e w' => e = .returned (.bool (rightB [⟨name, 1, []⟩])) ∧ Below w.heap.size w w' := by
  obtain ⟨W1, hW1⟩ : ∃ W1, W1 = w.alloc (.cells (avArr ⟨2, name, ev1 eA ec, sv1 uA uc uB ud⟩) 61) := ⟨_, rfl⟩
  have hb1 : Below w.heap.size w W1 := by rw [hW1]; exact bel_new _ _
  have hG1 : Blk W1 w.heap.size 61 (avArr ⟨2, name, ev1 eA ec, sv1 uA uc uB ud⟩) := by rw [hW1]; exact Blk.new _ _ _
  have hem := empty21_any (hact.below (hb1.mono hB)) ⟨Nat.zero_le _, Nat.zero_le _⟩
  rw [show emptyA (⟨2, name, ev1 eA ec, sv1 uA uc uB ud⟩ : AV).act = true from rfl] at hem
  have HK := Lib.hid (fun (W : World) (hW : Below W1.heap.size W1 W) => show W.cell? ⟨w.heap.size, 0, none⟩ = some (.int .i64 2) ∧ W.cell? ⟨w.heap.size, 1, none⟩ = some (.string ⟨name.toArray⟩) from ⟨(hG1.below hW hG1.lt).cell 0, (hG1.below hW hG1.lt).cell 1⟩)
  have HB1 := Lib.hid hb1
  have HW1 := Lib.hid hW1
  rw [hW1] at hem
  unfold avArr ev1 sv1 at hem ⊢
  simp only at hem ⊢
  clear hb1 hG1 hW1 hact
  go_enter Tryz.func69, Tryz.ntmps69
  go_wp2_with (first
    | (go_at_call 100; refine hem.mono ?_; clear hem; rintro e2 w2 ⟨rfl, hb2⟩; have hb2' := (show Below W1.heap.size W1 w2 by rw [HW1.out]; exact hb2); obtain ⟨y0, y1⟩ := HK.out w2 hb2'; have HB2 := Lib.hid (HB1.out.trans (hb2'.mono HB1.out.size)); have hri := right_any (w := w2.alloc (.cells #[.string ⟨name.toArray⟩, .int .i64 1, .slice none 0 0] 35)) (ent_one (d := []) (Blk.new w2 35 #[.string ⟨name.toArray⟩, .int .i64 1, .slice none 0 0]) (slc_none _ 0 _) (Nat.zero_le _)) (by simp) (fun e he => by rw [List.mem_singleton.1 he]; exact hl); clear hb2 hb2')
    | (go_at_call 38; refine hri.mono ?_; clear hri; rintro e3 w3 ⟨rfl, hb3⟩))
  go_ret
  exact ⟨rfl, HB2.out.trans ((bel_new w2 _).trans (hb3.mono (by simp)) |>.mono HB2.out.size)⟩
set_option maxRecDepth 100000 in
set_option maxHeartbeats 4000000 in
theorem mayF_any {w : World} {B : Nat} {uA : Option Addr} {uc : Nat} {uB : Option Addr} {ud : Nat} (name : Txt) (f : EV) (hact : ActAt w B ⟨4, name, f, sv1 uA uc uB ud⟩) (hB : B ≤ w.heap.size) (hl : f.path.length ≤ 1000000000) :
    Calls Tryz.prog 69 #[.agg (avArr ⟨4, name, f, sv1 uA uc uB ud⟩)] w fun e w' => e = .returned (.bool (decide (name = f.path) && rightB [f.ent])) ∧ Below w.heap.size w w' := by
  obtain ⟨W1, hW1⟩ : ∃ W1, W1 = w.alloc (.cells (avArr ⟨4, name, f, sv1 uA uc uB ud⟩) 61) := ⟨_, rfl⟩
  have hb1 : Below w.heap.size w W1 := by rw [hW1]; exact bel_new _ _
  have hG1 : Blk W1 w.heap.size 61 (avArr ⟨4, name, f, sv1 uA uc uB ud⟩) := by rw [hW1]; exact Blk.new _ _ _
  have hem := empty21_any (hact.below (hb1.mono hB)) ⟨Nat.zero_le _, Nat.zero_le _⟩
  rw [show emptyA (⟨4, name, f, sv1 uA uc uB ud⟩ : AV).act = true from rfl] at hem
  have HD := Lib.hid (hact.data)
  have HBB := Lib.hid hB
  obtain ⟨p, fk, fd, fA, fn, fc⟩ := f
  have HK := Lib.hid (fun (W : World) (hW : Below W1.heap.size W1 W) => show W.cell? ⟨w.heap.size, 0, none⟩ = some (.int .i64 4) ∧ W.cell? ⟨w.heap.size, 1, none⟩ = some (.string ⟨name.toArray⟩) ∧ W.cell? ⟨w.heap.size, 2, none⟩ = some (.string ⟨p.toArray⟩) ∧ W.cell? ⟨w.heap.size, 3, none⟩ = some (.int .i64 fk) ∧ W.cell? ⟨w.heap.size, 4, none⟩ = some (.slice fA fn fc) from
    have h9 := hG1.below hW hG1.lt
    ⟨h9.cell 0, h9.cell 1, h9.cell 2, h9.cell 3, h9.cell 4⟩)
  have HB1 := Lib.hid hb1
  have HW1 := Lib.hid hW1
  rw [hW1] at hem
  unfold avArr sv1 at hem ⊢
  simp only at hem hl ⊢
  have t1 : (ByteArray.mk name.toArray).toList = name := Go.ByteArray.toList_eq _
  have t2 : (ByteArray.mk p.toArray).toList = p := Go.ByteArray.toList_eq _
  clear hb1 hG1 hW1 hact hB
  by_cases hnp : name = p
  · have he : (name == p) = true := by rw [beq_iff_eq]; exact hnp
    have HX := Lib.hid (show (decide (name = p) && rightB [(⟨p, fk, fd⟩ : Ent)]) = rightB [(⟨p, fk, fd⟩ : Ent)] by rw [decide_eq_true hnp]; rfl)
    clear hnp
    go_enter Tryz.func69, Tryz.ntmps69
    go_wp2_with (first
      | (go_at_call 100; refine hem.mono ?_; clear hem; rintro e2 w2 ⟨rfl, hb2⟩; have hb2' := (show Below W1.heap.size W1 w2 by rw [HW1.out]; exact hb2); obtain ⟨y0, y1, y2, y3, y4⟩ := HK.out w2 hb2'; have HB2 := Lib.hid (HB1.out.trans (hb2'.mono HB1.out.size)); have hri := right_any (w := w2.alloc (.cells #[.string ⟨p.toArray⟩, .int .i64 fk, .slice fA fn fc] 35)) (ent_one (d := fd) (Blk.new w2 35 #[.string ⟨p.toArray⟩, .int .i64 fk, .slice fA fn fc]) ((HD.out.below (HB2.out.mono HBB.out)).below ((bel_new w2 _).mono (Nat.le_trans HBB.out HB2.out.size))) (by have := HBB.out; have := HB2.out.size; omega)) (by simp) (fun e he => by rw [List.mem_singleton.1 he]; exact hl); clear hb2 hb2')
      | (go_at_call 38; refine hri.mono ?_; clear hri; rintro e3 w3 ⟨rfl, hb3⟩))
    go_ret
    exact ⟨congrArg (fun b => Ending.returned (Value.bool b)) HX.out.symm, HB2.out.trans (((bel_new w2 _).trans (hb3.mono (by simp))).mono HB2.out.size)⟩
  · have he : (name == p) = false := by rw [beq_eq_false_iff_ne]; exact hnp
    have HX := Lib.hid (show (decide (name = p) && rightB [(⟨p, fk, fd⟩ : Ent)]) = false by rw [decide_eq_false hnp]; rfl)
    clear hnp
    go_enter Tryz.func69, Tryz.ntmps69
    go_wp2_with (go_at_call 100; refine hem.mono ?_; clear hem; rintro e2 w2 ⟨rfl, hb2⟩; have hb2' := (show Below W1.heap.size W1 w2 by rw [HW1.out]; exact hb2); obtain ⟨y0, y1, y2, y3, y4⟩ := HK.out w2 hb2'; have HB2 := Lib.hid (HB1.out.trans (hb2'.mono HB1.out.size)); clear hb2 hb2')
    go_ret
    exact ⟨congrArg (fun b => Ending.returned (Value.bool b)) HX.out.symm, HB2.out⟩
set_option maxRecDepth 100000 in
set_option maxHeartbeats 4000000 in
theorem mayN_any {w : World} {B : Nat} (a : AV) (hact : ActAt w B a) (hB : B ≤ w.heap.size) (hu : a.unit.n ≤ 1000000000 ∧ a.unit.n2 ≤ 1000000000) (h : emptyA a.act = false ∨ (a.kind ≠ 1 ∧ a.kind ≠ 2 ∧ a.kind ≠ 3 ∧ a.kind ≠ 4 ∧ a.kind ≠ 5 ∧ a.kind ≠ 6)) :
    Calls Tryz.prog 69 #[.agg (avArr a)] w fun e w' => e = .returned (.bool false) ∧ Below w.heap.size w w' := by
  obtain ⟨W1, hW1⟩ : ∃ W1, W1 = w.alloc (.cells (avArr a) 61) := ⟨_, rfl⟩
  have hb1 : Below w.heap.size w W1 := by rw [hW1]; exact bel_new _ _
  have hG1 : Blk W1 w.heap.size 61 (avArr a) := by rw [hW1]; exact Blk.new _ _ _
  have hem := empty21_any (hact.below (hb1.mono hB)) hu
  obtain ⟨kind, name, f, u⟩ := a
  have HK := Lib.hid (fun (W : World) (hW : Below W1.heap.size W1 W) => show W.cell? ⟨w.heap.size, 0, none⟩ = some (.int .i64 kind) from (hG1.below hW hG1.lt).cell 0)
  have HB1 := Lib.hid hb1
  have HW1 := Lib.hid hW1
  rw [hW1] at hem
  unfold avArr at hem ⊢
  simp only at hem h ⊢
  clear hb1 hG1 hW1 hact hB hu
  cases hemp : emptyA (⟨kind, name, f, u⟩ : AV).act with
  | false =>
    rw [hemp] at hem
    clear hemp h
    go_enter Tryz.func69, Tryz.ntmps69
    go_wp2_with (go_at_call 100; refine hem.mono ?_; clear hem; rintro e2 w2 ⟨rfl, hb2⟩; have hb2' := (show Below W1.heap.size W1 w2 by rw [HW1.out]; exact hb2); have HB2 := Lib.hid (HB1.out.trans (hb2'.mono HB1.out.size)); clear hb2 hb2')
    go_ret
    exact ⟨rfl, HB2.out⟩
  | true =>
    rw [hemp] at hem h
    obtain ⟨n1, n2, n3, n4, n5, n6⟩ := h.resolve_left (by decide)
    have k1 : (kind == 1) = false := by rw [beq_eq_false_iff_ne]; exact n1
    have k2 : (kind == 2) = false := by rw [beq_eq_false_iff_ne]; exact n2
    have k3 : (kind == 3) = false := by rw [beq_eq_false_iff_ne]; exact n3
    have k4 : (kind == 4) = false := by rw [beq_eq_false_iff_ne]; exact n4
    have k5 : (kind == 5) = false := by rw [beq_eq_false_iff_ne]; exact n5
    have k6 : (kind == 6) = false := by rw [beq_eq_false_iff_ne]; exact n6
    clear hemp h n1 n2 n3 n4 n5 n6
    go_enter Tryz.func69, Tryz.ntmps69
    go_wp2_with (go_at_call 100; refine hem.mono ?_; clear hem; rintro e2 w2 ⟨rfl, hb2⟩; have hb2' := (show Below W1.heap.size W1 w2 by rw [HW1.out]; exact hb2); have y0 := HK.out w2 hb2'; have HB2 := Lib.hid (HB1.out.trans (hb2'.mono HB1.out.size)); clear hb2 hb2')
    go_ret
    exact ⟨rfl, HB2.out⟩
/-- A unit none of whose parts is very long. -/
structure SmallX (u : SV) : Prop where
  name : u.name.length ≤ 60000000
  start : u.start.length ≤ 60000000
  texts : ∀ t ∈ u.req ++ u.aft, t.length ≤ 60000000
  n : u.n ≤ 60000000
  n2 : u.n2 ≤ 60000000
theorem SmallU.v {u : SV} (h : SmallU u) : SmallX u := ⟨Nat.le_trans h.name (by decide), Nat.le_trans h.start (by decide), fun t ht => Nat.le_trans (h.texts t ht) (by decide), Nat.le_trans h.n (by decide), Nat.le_trans h.n2 (by decide)⟩
set_option maxRecDepth 100000 in
set_option maxHeartbeats 4000000 in
theorem mayU2_any {w : World} {B : Nat} {eA : Option Addr} {ec : Nat} (nm0 : Txt) (hnm0 : nm0.length ≤ 1000000000) (u : SV) (hact : ActAt w B ⟨6, nm0, ev1 eA ec, u⟩) (h1 : Slc w B 1 u.A u.n u.c (u.req.map encStr)) (h2 : Slc w B 1 u.A2 u.n2 u.c2 (u.aft.map encStr)) (hB : B ≤ w.heap.size) (hs : SmallX u) :
    Calls Tryz.prog 69 #[.agg (avArr ⟨6, nm0, ev1 eA ec, u⟩)] w fun e w' => e = .returned (.bool (decide (nm0 = u.name) && mayU u.srv)) ∧ Below w.heap.size w w' := by
  obtain ⟨W1, hW1⟩ : ∃ W1, W1 = w.alloc (.cells (avArr ⟨6, nm0, ev1 eA ec, u⟩) 61) := ⟨_, rfl⟩
  have hb1 : Below w.heap.size w W1 := by rw [hW1]; exact bel_new _ _
  have hG1 : Blk W1 w.heap.size 61 (avArr ⟨6, nm0, ev1 eA ec, u⟩) := by rw [hW1]; exact Blk.new _ _ _
  have hem := empty21_any (hact.below (hb1.mono hB)) ⟨Nat.le_trans hs.n (by decide), Nat.le_trans hs.n2 (by decide)⟩
  rw [show emptyA (⟨6, nm0, ev1 eA ec, u⟩ : AV).act = true from rfl] at hem
  have HK := Lib.hid (fun (W : World) (hW : Below W1.heap.size W1 W) => hG1.below hW hG1.lt)
  have HB1 := Lib.hid hb1
  have HW1 := Lib.hid hW1
  have H1 := Lib.hid h1
  have H2 := Lib.hid h2
  have HB := Lib.hid hB
  have HS := Lib.hid hs
  have HGL := Lib.hid hG1.lt
  rw [hW1] at hem
  obtain ⟨nm, st, rq, A, n, c, af, A2, n2, c2⟩ := u
  unfold avArr ev1 at hem HK ⊢
  simp only at hem HK ⊢
  clear hb1 hG1 hW1 h1 h2 hB hs hact
  go_enter Tryz.func69, Tryz.ntmps69
  go_upto_region 14 with (go_at_call 100; refine hem.mono ?_; clear hem; rintro e2 w2 ⟨rfl, hb2⟩; have hb2' := (show Below W1.heap.size W1 w2 by rw [HW1.out]; exact hb2); have hG2 := HK.out w2 hb2'; have y0 := hG2.cell 0; have y1 := hG2.cell 1; have y5 := hG2.cell 5; have y6 := hG2.cell 6; have y7 := hG2.cell 7; have y8 := hG2.cell 8; simp only [List.getElem?_toArray, List.getElem?_cons_zero, List.getElem?_cons_succ] at y0 y1 y5 y6 y7 y8; have HB2 := Lib.hid hb2'; clear hb2 hb2' hG2)
  have HZ := Lib.hid (show w.heap.size < w2.heap.size from Nat.lt_of_lt_of_le HGL.out HB2.out.size)
  have hwl : w.heap.size < w2.heap.size := HZ.out
  obtain ⟨W3, hW3⟩ : ∃ W3, W3 = (w2.alloc (.cells #[.string ⟨nm.toArray⟩, .string ⟨st.toArray⟩, .slice A n c, .slice A2 n2 c2] 59)).drew := ⟨_, rfl⟩
  have hb3 : Below w2.heap.size w2 W3 := by rw [hW3]; exact (bel_new _ _).drew
  have hz3 : W3.heap.size = w2.heap.size + 1 := by rw [hW3]; simp
  have hG3 : Blk W3 w2.heap.size 59 #[.string ⟨nm.toArray⟩, .string ⟨st.toArray⟩, .slice A n c, .slice A2 n2 c2] := by rw [hW3]; exact (Blk.new _ _ _).drew
  have hbw2 := HB1.out.trans (HB2.out.mono HB1.out.size)
  have hwb := Nat.le_trans HB.out hbw2.size
  obtain ⟨g1, c1, w4, A5, c5, w5, D⟩ := both2 (W := W3) ⟨nm, st, rq, A, n, c, af, A2, n2, c2⟩ (H1.out.below ((hbw2.mono HB.out).trans (hb3.mono hwb))) (H2.out.below ((hbw2.mono HB.out).trans (hb3.mono hwb))) (by omega) ⟨by have := HS.out.n; simp only at this ⊢; omega, by have := HS.out.n2; simp only at this ⊢; omega⟩
  have r1 := D.r1
  have r2 := D.r2
  have hG4 := hG3.below D.bel1 hG3.lt
  have hG5 := hG3.below D.bel hG3.lt
  have k42 := hG4.cell 2
  have k43 := hG4.cell 3
  have k52 := hG5.cell 2
  have k53 := hG5.cell 3
  have f52 := hG5.frozen 2
  have f53 := hG5.frozen 3
  simp only [List.getElem?_toArray, List.getElem?_cons_zero, List.getElem?_cons_succ] at k42 k43 k52 k53
  rw [hz3, hW3] at r1
  have HR1 : Hid ((Builtin.append_ #[23, 23] 23 #[.slice (some ⟨w2.heap.size + 1, 0, none⟩) 0 0, .slice A n c]).run Tryz.prog ((w2.alloc (.cells #[.string ⟨nm.toArray⟩, .string ⟨st.toArray⟩, .slice A n c, .slice A2 n2 c2] 59)).alloc (.cells #[] 9)).drew = .ok (.slice (some ⟨g1, 0, none⟩) n c1) w4) := r1
  have HR2 : Hid ((Builtin.append_ #[23, 23] 23 #[.slice (some ⟨g1, 0, none⟩) n c1, .slice A2 n2 c2]).run Tryz.prog w4 = .ok (.slice A5 (n + n2) c5) w5) := r2
  have HU6 : Hid (Blk ((w5.setCell ⟨w2.heap.size, 2, none⟩ (.slice none 0 0)).setCell ⟨w2.heap.size, 3, none⟩ (.slice A5 (n + n2) c5)) w2.heap.size 59 #[.string ⟨nm.toArray⟩, .string ⟨st.toArray⟩, .slice none 0 0, .slice A5 (n + n2) c5]) := (hG5.set_ 2 (.slice none 0 0)).set_ 3 (.slice A5 (n + n2) c5)
  have HB6 : Hid (Below W1.heap.size W1 ((w5.setCell ⟨w2.heap.size, 2, none⟩ (.slice none 0 0)).setCell ⟨w2.heap.size, 3, none⟩ (.slice A5 (n + n2) c5))) := by
    have e1 := HB2.out.trans ((hb3.trans (D.bel.mono hb3.size)).mono HB2.out.size)
    exact (e1.setCell (p := ⟨w2.heap.size, 2, none⟩) HB2.out.size _).setCell (p := ⟨w2.heap.size, 3, none⟩) HB2.out.size _
  have HS6 : Hid (Slc ((w5.setCell ⟨w2.heap.size, 2, none⟩ (.slice none 0 0)).setCell ⟨w2.heap.size, 3, none⟩ (.slice A5 (n + n2) c5)) ((w5.setCell ⟨w2.heap.size, 2, none⟩ (.slice none 0 0)).setCell ⟨w2.heap.size, 3, none⟩ (.slice A5 (n + n2) c5)).heap.size 1 A5 (n + n2) c5 ((rq ++ af).map encStr)) := by
    have e1 := own_slc_of D.own
    have e2 : ∀ x, A5 = some x → W3.heap.size ≤ x.block := fun x hx => (D.own.lt x.block (by rw [hx]; rfl)).1
    have e3 := (e1.apartB (w' := w5.setCell ⟨w2.heap.size, 2, none⟩ (.slice none 0 0)) (fun x hx => Below.heap_setCell _ _ _ _ (by have := e2 x hx; simp only; omega))).apartB (w' := (w5.setCell ⟨w2.heap.size, 2, none⟩ (.slice none 0 0)).setCell ⟨w2.heap.size, 3, none⟩ (.slice A5 (n + n2) c5)) (fun x hx => Below.heap_setCell _ _ _ _ (by have := e2 x hx; simp only; omega))
    exact e3.more (by simp [World.setCell])
  have HA6 := Lib.hid (show ∀ x, A5 = some x → w2.heap.size < x.block from fun x hx => by have := (D.own.lt x.block (by rw [hx]; rfl)).1; omega)
  clear D r1 r2 hG3 hG4 hG5 hb3 hz3 hW3 hbw2 hwb
  go_cut [] (fun wx => ∃ (A5 : Option Addr) (c5 : Nat), Blk wx w2.heap.size 59 #[.string ⟨nm.toArray⟩, .string ⟨st.toArray⟩, .slice none 0 0, .slice A5 (n + n2) c5] ∧ Slc wx wx.heap.size 1 A5 (n + n2) c5 ((rq ++ af).map encStr) ∧ Below W1.heap.size W1 wx)
  case first =>
    go_region_law (first
      | (refine step_append_at (by rfl) _ _ _ (by rfl) HR1.out (by with_reducible rfl) (by rfl) (by rfl) (by rfl) ?_)
      | (refine step_append_at (by rfl) _ _ _ (by rfl) HR2.out (by with_reducible rfl) (by rfl) (by rfl) (by rfl) ?_))
    all_goals go_wp2_with (fail)
    all_goals go_meet
    all_goals case rel => exact ⟨A5, c5, HU6.out, HS6.out, HB6.out⟩
  case rest =>
    obtain ⟨A6, c6, hG, hS, hb⟩ := hcut
    have hd := (Below.refl wc.heap.size wc).drew
    have HKW := Lib.hid (fun (W : World) (hW : Below wc.heap.size wc W) => show W.cell? ⟨w.heap.size, 1, none⟩ = some (.string ⟨nm0.toArray⟩) ∧ W.cell? ⟨w2.heap.size, 0, none⟩ = some (.string ⟨nm.toArray⟩) ∧ W.cell? ⟨w2.heap.size, 1, none⟩ = some (.string ⟨st.toArray⟩) ∧ W.cell? ⟨w2.heap.size, 2, none⟩ = some (.slice none 0 0) ∧ W.cell? ⟨w2.heap.size, 3, none⟩ = some (.slice A6 (n + n2) c6) from by
      have e1 := HK.out W (hb.trans (hW.mono hb.size))
      have e2 := hG.below hW hG.lt
      exact ⟨e1.cell 1, e2.cell 0, e2.cell 1, e2.cell 2, e2.cell 3⟩)
    have hnew := new_any wc.drew
    have hsu := HS.out
    have hsa : SmallA ⟨6, nm0, ev0, ⟨nm, st, [], none, 0, 0, rq ++ af, A6, n + n2, c6⟩⟩ := by
      have a1 := hsu.n
      have a2 := hsu.n2
      have a3 := hsu.name
      have a4 := hsu.start
      refine ⟨⟨by show 0 ≤ 1000000000; omega, by show 0 ≤ 1000000000; omega, by show n + n2 ≤ 1000000000; simp only at a1 a2; omega⟩, hnm0, by show ([] : Txt).length ≤ _; simp, Nat.le_trans a4 (by decide), fun t ht => ?_⟩
      rcases List.mem_cons.1 ht with h9 | h9
      · rw [h9]; exact Nat.le_trans a3 (by decide)
      · exact Nat.le_trans (hsu.texts t (by simpa using h9)) (by decide)
    have HSA := Lib.hid hsa
    clear hsa
    have HDO := Lib.hid (fun (w7 : World) (hR : MRun wc.drew w7.heap.size w7 (fun k => k = wc.drew.heap.size) wc.drew.heap.size newM) => hR.do_ (a := ⟨6, nm0, ev0, ⟨nm, st, [], none, 0, 0, rq ++ af, A6, n + n2, c6⟩⟩) (C := wc.heap.size) ⟨slc_none _ _ _, slc_none _ _ _, hS.below (hd.trans hR.bel)⟩ hR.bel.size HSA.out (apart_any (apart_low (u := ⟨nm, st, [], none, 0, 0, rq ++ af, A6, n + n2, c6⟩) (slc_none wc wc.heap.size 1) hS (fun k hk => by rw [show k = wc.drew.heap.size from hk]; exact Nat.le_refl _))))
    have HBF := Lib.hid (show Below w.heap.size w wc from HB1.out.trans (hb.mono HB1.out.size))
    have HD := Lib.hid hd
    obtain ⟨k1, k2, k3, k4, k5⟩ := HKW.out _ hd
    have HRES := Lib.hid (show doM newM (⟨6, nm0, ev0, ⟨nm, st, [], none, 0, 0, rq ++ af, A6, n + n2, c6⟩⟩ : AV).act = if (decide (nm0 = nm) && mayU ⟨nm, st, rq, af⟩) = true then (⟨[], [], [⟨nm, st, [], rq ++ af⟩], []⟩, 0) else (newM, 70) by
      have e2 := mayU_both ⟨nm, st, rq, af⟩
      simp only at e2
      by_cases h9 : nm0 = nm
      · have e1 : (⟨6, nm0, ev0, ⟨nm, st, [], none, 0, 0, rq ++ af, A6, n + n2, c6⟩⟩ : AV).act = startA ⟨nm, st, [], rq ++ af⟩ := by rw [h9]; rfl
        rw [e1, start_fresh, e2, decide_eq_true h9]
        simp
      · have e1 : doM newM (⟨6, nm0, ev0, ⟨nm, st, [], none, 0, 0, rq ++ af, A6, n + n2, c6⟩⟩ : AV).act = doStart newM nm0 ⟨nm, st, [], rq ++ af⟩ := rfl
        rw [e1]
        unfold doStart
        rw [if_neg (fun h8 => h9 h8.2), decide_eq_false h9]
        rfl)
    clear hd hG hS hb hsu
    have HSP := Lib.hid (show SmallP (⟨6, nm0, ev0, ⟨nm, st, [], none, 0, 0, rq ++ af, A6, n + n2, c6⟩⟩ : AV).act from ⟨by show ([] : Txt).length ≤ _; simp, by show ([] : List Txt).length ≤ _; simp, by
      show (rq ++ af).length ≤ _
      have a1 := H1.out.len
      have a2 := H2.out.len
      have a3 := HS.out.n
      have a4 := HS.out.n2
      simp at a1 a2 a3 a4
      rw [List.length_append]
      omega⟩)
    obtain ⟨x, hx⟩ : ∃ x, x = (decide (nm0 = nm) && mayU ⟨nm, st, rq, af⟩) := ⟨_, rfl⟩
    have HCODE := Lib.hid (show (doM newM (⟨6, nm0, ev0, ⟨nm, st, [], none, 0, 0, rq ++ af, A6, n + n2, c6⟩⟩ : AV).act).2 = if x = true then 0 else 70 by rw [HRES.out, hx]; split <;> rfl)
    have HX := Lib.hid hx
    clear hx HRES
    unfold avArr ev0 at HDO
    simp only at HDO
    go_wp2_with (fail)
    go_region_law (first
      | (go_simp; go_at_call 20; refine hnew.mono ?_; clear hnew; rintro e7 w7 ⟨rfl, hm7, hb7⟩; have hR7 := mrun_start hm7 hb7; obtain ⟨m1, m2, m3, m4, m5⟩ := HKW.out w7 (HD.out.trans hb7); have hdo := HDO.out w7 hR7; have HR7 := Lib.hid hR7; clear hm7 hb7 hR7)
      | (go_simp; go_at_call 42; refine hdo.mono ?_; clear hdo; intro e8 w8 hq; obtain ⟨rfl, h8, -⟩ := HR7.out.did HSP.out hq; have HB8 := Lib.hid (HBF.out.trans ((HD.out.trans h8.bel).mono HBF.out.size)); clear hq h8; rw [HCODE.out]))
    all_goals
      cases x <;>
      (go_wp2_with (fail)
       go_ret
       exact ⟨congrArg (fun b => Ending.returned (Value.bool b)) HX.out, HB8.out⟩)
/-- A step none of whose parts is long. -/
structure SmallQ (a : AV) : Prop where
  name : a.name.length ≤ 60000000
  path : a.file.path.length ≤ 60000000
  data : a.file.n ≤ 60000000
  unit : SmallX a.unit
theorem may21_any {w : World} {B : Nat} (a : AV) (h : ActAt w B a) (hB : B ≤ w.heap.size) (hs : SmallQ a) :
    Calls Tryz.prog 69 #[.agg (avArr a)] w fun e w' => e = .returned (.bool (mayA a.act)) ∧ Below w.heap.size w w' := by
  have hu : a.unit.n ≤ 1000000000 ∧ a.unit.n2 ≤ 1000000000 := ⟨Nat.le_trans hs.unit.n (by decide), Nat.le_trans hs.unit.n2 (by decide)⟩
  have hnl : a.name.length ≤ 1000000000 := Nat.le_trans hs.name (by decide)
  cases he : emptyA a.act with
  | false =>
    rw [show mayA a.act = false by unfold mayA; rw [he]; rfl]
    exact mayN_any a h hB hu (.inl he)
  | true =>
    by_cases k135 : a.kind = 1 ∨ a.kind = 3 ∨ a.kind = 5
    · obtain ⟨eA, ec, uA, uc, uB, ud, e⟩ := shape_plain h he (by omega) (by omega)
      rw [show mayA a.act = nameB a.name by unfold mayA; rw [he, Bool.true_and, if_pos (show a.act.kind = 1 ∨ a.act.kind = 3 ∨ a.act.kind = 5 from k135)]; rfl]
      have h9 := mayP_any (w := w) (eA := eA) (ec := ec) (uA := uA) (uc := uc) (uB := uB) (ud := ud) a.kind a.name k135 hnl
      rw [← e] at h9
      exact h9
    by_cases k2 : a.kind = 2
    · obtain ⟨eA, ec, uA, uc, uB, ud, e⟩ := shape_plain h he (by omega) (by omega)
      rw [show mayA a.act = rightB [⟨a.name, 1, []⟩] by unfold mayA; rw [he, Bool.true_and, if_neg (show ¬ (a.act.kind = 1 ∨ a.act.kind = 3 ∨ a.act.kind = 5) from k135), if_pos (show a.act.kind = 2 from k2)]; rfl]
      rw [k2] at e
      have h9 := mayR_any (w := w) (B := B) (eA := eA) (ec := ec) (uA := uA) (uc := uc) (uB := uB) (ud := ud) a.name (by rw [← e]; exact h) hB hnl
      rw [← e] at h9
      exact h9
    by_cases k4 : a.kind = 4
    · obtain ⟨uA, uc, uB, ud, e⟩ := shape_file h he k4
      rw [show mayA a.act = (decide (a.name = a.file.path) && rightB [a.file.ent]) by unfold mayA; rw [he, Bool.true_and, if_neg (show ¬ (a.act.kind = 1 ∨ a.act.kind = 3 ∨ a.act.kind = 5) from k135), if_neg (show ¬ a.act.kind = 2 from k2), if_pos (show a.act.kind = 4 from k4)]; rfl]
      have h9 := mayF_any (w := w) (B := B) (uA := uA) (uc := uc) (uB := uB) (ud := ud) a.name a.file (by rw [← e]; exact h) hB (Nat.le_trans hs.path (by decide))
      rw [← e] at h9
      exact h9
    by_cases k6 : a.kind = 6
    · obtain ⟨eA, ec, e⟩ := shape_unit h he k6
      rw [show mayA a.act = (decide (a.name = a.unit.name) && mayU a.unit.srv) by unfold mayA; rw [he, Bool.true_and, if_neg (show ¬ (a.act.kind = 1 ∨ a.act.kind = 3 ∨ a.act.kind = 5) from k135), if_neg (show ¬ a.act.kind = 2 from k2), if_neg (show ¬ a.act.kind = 4 from k4), if_pos (show a.act.kind = 6 from k6)]; rfl]
      have h9 := mayU2_any (w := w) (B := B) (eA := eA) (ec := ec) a.name hnl a.unit (by rw [← e]; exact h) h.req h.aft hB hs.unit
      rw [← e] at h9
      exact h9
    · rw [show mayA a.act = false by unfold mayA; rw [he, Bool.true_and, if_neg (show ¬ (a.act.kind = 1 ∨ a.act.kind = 3 ∨ a.act.kind = 5) from k135), if_neg (show ¬ a.act.kind = 2 from k2), if_neg (show ¬ a.act.kind = 4 from k4), if_neg (show ¬ a.act.kind = 6 from k6)]]
      exact mayN_any a h hB hu (.inr ⟨by omega, k2, by omega, k4, by omega, k6⟩)
end Go.Proofs.YtibndaianhlcaaaGreatDoor
namespace Go.Proofs.YtibndaianhlcaaaGreatDoor
open Go.RowKit
set_option linter.unusedVariables false
set_option linter.unusedSimpArgs false

theorem size_builder : (Tryz.prog.info? 113).map (·.size) = some 2 := by kernel_rfl
theorem lies_builder : liesAt Tryz.prog Tryz.prog.depth 113 (2 / Tryz.prog.cellsOf 113) 0 113 1 = true := by kernel_rfl
set_option maxRecDepth 100000 in
theorem check_any (B b : Nat) (bs : List Value) (w : World) (h : Lib.IsBuilderF 113 5 B b bs w) :
    Calls Tryz.prog 101 #[.pointer (some ⟨b, 0, none⟩)] w fun e w' => e = .returned (.tuple #[]) ∧ Lib.BuilderAtF 113 5 B b (.pointer (some ⟨b, 0, none⟩)) bs w' ∧ Below B w w' ∧ Lib.OthersKept 5 (some b) w w' := by
  rcases h with h | h
  · have c0 := h.cell0
    have f0 := h.frozen0
    have hs := h.shape
    have H := Lib.hid h
    clear h
    go_enter Tryz.func101, Tryz.ntmps101
    obtain ⟨j, hj, hjs⟩ := Option.map_eq_some_iff.1 size_builder
    go_wp2
    rw [Lib.run_to_unsafe w ⟨b, 0, none⟩ Tryz.underlying111 Tryz.underlying153 hj (by rw [hjs]; decide) hs (Nat.zero_lt_succ 1)]
    simp only [Result.andThen]
    rw [Oper.upon_value]
    go_wp2
    rw [run_callFunc_extern Tryz.func125 (by kernel_rfl) (by kernel_rfl) (by kernel_rfl) (e := Extern.AbiNoEscape.same) (by kernel_rfl)]
    rw [Lib.run_noEscape]
    simp only [Result.andThen]
    rw [Oper.upon_value]
    go_wp2
    rw [Lib.run_from_unsafe w ⟨b, 0, none⟩ Tryz.underlying153 Tryz.underlying111 hj hs lies_builder]
    simp only [Result.andThen]
    rw [Oper.upon_value]
    go_wp2
    go_end0
    exact ⟨rfl, H.out.used _, (Below.refl B w).setCell (p := ⟨b, 0, none⟩) H.out.1 _, (Lib.OthersKept.refl _ _ w).setCell ⟨b, 0, none⟩ rfl _⟩
  · have c0 := h.cell0
    have hs := h.shape
    have hlt := h.lt
    have H := Lib.hid h
    clear h
    go_enter Tryz.func101, Tryz.ntmps101
    obtain ⟨j, hj, _⟩ := Option.map_eq_some_iff.1 size_builder
    go_wp2
    rw [Lib.run_neq_ptr_same w _ Tryz.underlying111 hj]
    go_wp2
    go_end0
    exact ⟨rfl, H.out, Below.refl B _, Lib.OthersKept.refl _ _ _⟩

theorem byte_ne_builder : 113 ≠ 5 := by decide
set_option maxRecDepth 100000 in
set_option maxHeartbeats 2000000 in
/-- (*strings.Builder).WriteString: the bytes stand behind those that were there. -/
theorem ws_any (B b : Nat) (bs : List Value) (s : ByteArray) (w : World) (h : Lib.IsBuilderF 113 5 B b bs w) (hlen : bs.length + s.size ≤ 140737488355328) (hBw : B ≤ w.heap.size) :
    Calls Tryz.prog 70 #[.pointer (some ⟨b, 0, none⟩), .string s] w fun e w' => e = .returned (.tuple #[.int .i64 s.size, .nilIface]) ∧ Lib.IsBuilderF 113 5 B b (bs ++ Lib.strCells s) w' ∧ Below B w w' ∧ Lib.OthersKept 5 (some b) w w' := by
  obtain ⟨i0, hi, hz0, hz1, hz2⟩ := info_parts byte_info
  have hck := check_any B b bs w h
  go_enter Tryz.func70, Tryz.ntmps70
  go_wp2_with (go_at_call 101; refine hck.mono ?_)
  rintro e w1 ⟨rfl, h1, hb1, hk1⟩
  obtain ⟨hB, v, hbk, hown, hne⟩ := h1
  have c0 : w1.cell? ⟨b, 0, none⟩ = some (.pointer (some ⟨b, 0, none⟩)) := by rw [Lib.cell_of_heap hbk]; rfl
  have c1 : w1.cell? ⟨b, 1, none⟩ = some v := by rw [Lib.cell_of_heap hbk]; rfl
  go_wp2_with (at_builtin; refine Lib.wpList_append_own_stringF _ rfl _ _ 33 9 rfl B 5 i0 Tryz.underlying33 Tryz.underlying9 hi hz0 hz1 hz2 _ _ _ rfl hown s rfl ?c3 ?c4 ?c5 ?_)
  case c3 => unfold maxLen; omega
  case c4 => omega
  case c5 => have := hb1.size; omega
  intro v' w2 hown' hgrow _
  have hlt : b < w1.heap.size := by
    rcases Nat.lt_or_ge b w1.heap.size with h' | h'
    · exact h'
    · simp [Array.getElem?_eq_none h'] at hbk
  have hb2 : w2.heap[b]? = some (.cells #[.pointer (some ⟨b, 0, none⟩), v] 113 (0, 0)) := by
    rw [hgrow.block b hlt (fun e => hne e.symm)]
    exact hbk
  have d0 : w2.cell? ⟨b, 0, none⟩ = some (.pointer (some ⟨b, 0, none⟩)) := by rw [Lib.cell_of_heap hb2]; rfl
  have d1 : w2.cell? ⟨b, 1, none⟩ = some v := by rw [Lib.cell_of_heap hb2]; rfl
  have f1 : w2.frozen? ⟨b, 1, none⟩ = false := Lib.frozen_of_heap hb2 1
  obtain ⟨ao, n', cap, rfl⟩ : ∃ ao n' cap, v' = .slice ao n' cap := by
    rcases hown'.2 with ⟨hv, _⟩ | ⟨g, cap, cur, fz, hv, _⟩
    · exact ⟨_, _, _, hv⟩
    · exact ⟨_, _, _, hv⟩
  go_wp2
  go_ret2
  refine ⟨rfl, .inr ?_, ?_, (hk1.grown hgrow (Lib.ownsRowF_kind hown)).setCell ⟨b, 1, none⟩ rfl _⟩
  · exact Lib.BuilderAtF.put (T := 113) (e := 5) hB hb2 (bs' := bs ++ Lib.strCells s) (by simpa [Lib.strCells_length] using hown') byte_ne_builder
  · exact (hb1.grown hgrow (by have := hb1.size; omega) (fun k hk => (hown.lt k hk).1)).setCell (p := ⟨b, 1, none⟩) hB _
end Go.Proofs.YtibndaianhlcaaaGreatDoor
namespace Go.Proofs
open Go.Shelf
def Tryz.lays169_ren : Go.Shelf.Ren := ⟨fun | 169 => 74 | n => n, fun | 70 => 111 | 9 => 9 | 0 => 0 | 72 => 113 | 37 => 33 | 127 => 137 | 3 => 3 | 5 => 5 | n => n, fun | n => n⟩
theorem Tryz.lays169 : Go.Proofs.Lays.n169 Tryz.prog Tryz.lays169_ren := {
  mixed := by kernel_rfl
  f169 := Tryz.func74.trans (congrArg some (by kernel_rfl))
  t0 := Tryz.underlying0
  a0 := Tryz.isAgg0
  z0 := Tryz.sizeOf0
  v0 := Tryz.zeroValue0
  t3 := Tryz.underlying3
  a3 := Tryz.isAgg3
  z3 := Tryz.sizeOf3
  v3 := Tryz.zeroValue3
  t9 := Tryz.underlying9
  a9 := Tryz.isAgg9
  z9 := Tryz.sizeOf9
  v9 := Tryz.zeroValue9
  t37 := Tryz.underlying33
  a37 := Tryz.isAgg33
  z37 := Tryz.sizeOf33
  v37 := Tryz.zeroValue33
  t70 := Tryz.underlying111
  a70 := Tryz.isAgg111
  z70 := Tryz.sizeOf111
  v70 := Tryz.zeroValue111
  t72 := Tryz.underlying113
  a72 := Tryz.isAgg113
  z72 := Tryz.sizeOf113
  v72 := Tryz.zeroValue113
  t127 := Tryz.underlying137
  a127 := Tryz.isAgg137
  z127 := Tryz.sizeOf137
  v127 := Tryz.zeroValue137 }
theorem Tryz.Builder_Extra_169 : Builder.Extra Tryz.prog Tryz.lays169_ren := {
  sizeBuilder := by kernel_rfl
  liesBuilder := by kernel_rfl
  t5 := Tryz.underlying5
  a5 := Tryz.isAgg5
  z5 := Tryz.sizeOf5
  v5 := Tryz.zeroValue5
  infoByte := by kernel_rfl
  cellsByte := by kernel_rfl
  sizeByte := by kernel_rfl
  neB5 := by decide }
open Go.RowKit in
/-- (*strings.Builder).String: "String returns the accumulated string.": WHATEVER THE BUILDER HOLDS; THE FORM '_k': OVER 'Lib.IsBuilderF' (a builder that 'String()' may have read), AND WITH THE FRAME THAT REACHES ABOVE THE BUILDER: 'Lib.OthersKept': every block that is not b and is no row of uint8's stands as it stood: the iterator of a range among them. (LAID: no walk: one application.) -/
theorem Tryz.Builder_String_any_k (B b : Nat) (l : List UInt8) (w : World) (h : Lib.IsBuilderF 113 5 B b (Lib.byteCells l) w) (hBw : B ≤ w.heap.size) :
    Calls Tryz.prog 74 #[.pointer (some ⟨b, 0, none⟩)] w fun e w' => e = .returned (.string ⟨l.toArray⟩) ∧ (Lib.IsBuilderF 113 5 B b (Lib.byteCells l) w' ∧ Below B w w' ∧ Lib.OthersKept 5 (some b) w w') := Any.Builder_String_any_k Tryz.lays169 Tryz.Builder_Extra_169 B b l w h hBw
end Go.Proofs
