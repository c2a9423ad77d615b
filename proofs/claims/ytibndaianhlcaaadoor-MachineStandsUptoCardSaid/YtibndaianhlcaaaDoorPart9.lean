/- slices.Delete at units. machine.stop. machine.unit: a unit copied. The walk of copied (bootjacklaw08). -/
import Derived.Test.YtibndaianhlcaaaDoorPart7
import Derived.Test.YtibndaianhlcaaaDoorPart8
import Derived.Test.YtibndaianhlcaaaDoorPart6
namespace Go.Proofs.YtibndaianhlcaaaDoor
open Go.RowKit Go.Sort
set_option linter.unusedVariables false
set_option linter.unusedSimpArgs false

theorem unit_info : (Tryd.prog.info? 46).map (fun i => (i.zero, i.size, i.bytes)) = some (some (.agg #[.string .empty, .string .empty, .slice none 0 0, .slice none 0 0]), 4, 80) := by kernel_rfl
theorem unit_zero : ∀ w, (zeroValue 46).run Tryd.prog w = .ok (.agg #[.string .empty, .string .empty, .slice none 0 0, .slice none 0 0]) w := Tryd.zeroValue46
/-- clear of one generation. -/
theorem run_clear_unit (w : World) (ty : TypeId) (b o c : Nat) (hc : ∀ j, j < 4 → (w.cell? ⟨b, o + j, none⟩).isSome = true) (hf : ∀ j, j < 4 → w.frozen? ⟨b, o + j, none⟩ = false) :
    (Builtin.clear_ #[32] ty #[.slice (some ⟨b, o, none⟩) 1 c]).run Tryd.prog w = .ok (.tuple #[]) (w.setCells b o [.string ⟨#[]⟩, .string ⟨#[]⟩, .slice none 0 0, .slice none 0 0]) := by
  have hst := run_storeCells_cells (P := Tryd.prog) b o [.string ⟨#[]⟩, .string ⟨#[]⟩, .slice none 0 0, .slice none 0 0] 0 w (by simpa using hc) (by simpa using hf) (by intro v hv; simp only [List.mem_cons, List.not_mem_nil, or_false] at hv; rcases hv with rfl | rfl | rfl | rfl <;> rfl)
  simp only [Nat.add_zero] at hst
  have hz : (Builtin.zeroCells (Value.agg #[.string ⟨#[]⟩, .string ⟨#[]⟩, .slice none 0 0, .slice none 0 0]).cells 1).toList = [.string ⟨#[]⟩, .string ⟨#[]⟩, .slice none 0 0, .slice none 0 0] := by kernel_rfl
  simp [Builtin.clear_, run_underlying Tryd.underlying32, unit_zero, hz, hst]

set_option maxHeartbeats 4000000 in
set_option maxRecDepth 100000 in
theorem deleteU_any {w : World} {base : Nat} {A : Option Addr} {n c : Nat} {l : List SV} (h : w.ownsRow base 46 4 (.slice A n c) n (l.flatMap svCells)) (i j : Nat) (hj : j = i + 1) (hi : i < n) :
    Calls Tryd.prog 37 #[.slice A n c, .int .i64 (i : Int), .int .i64 (j : Int)] w fun e w' => e = .returned (.slice A (n - 1) c) ∧
      w'.ownsRow base 46 4 (.slice A (n - 1) c) (n - 1) ((l.take i ++ l.drop j).flatMap svCells) ∧ w.grownBy w' (Value.slice A n c).ownBlock := by
  have hlen : l.length = n := by have h9 := h.1; rw [flatMap_len svCells 4 l (fun o _ => svCells_length o)] at h9; omega
  rcases h.2 with ⟨_, h0⟩ | ⟨g, cap, cur, e, hbase, hb, h1, h2, h3, h4⟩
  · omega
  injection e with e1 _ e3
  subst e1 e3
  have hB : Blk w g 46 cur := hb
  have hfm := flatMap_take svCells 4 l
  obtain ⟨news, hnews⟩ : ∃ news, news = (l.drop j).flatMap svCells := ⟨_, rfl⟩
  have hnl : news.length = (n - j) * 4 := by rw [hnews, flatMap_len svCells 4 _ (fun o _ => svCells_length o), List.length_drop, hlen]
  have hcellN : ∀ t u, news[t]? = some u → cur.toList[j * 4 + t]? = some u := by
    intro t u hu
    have ht := (List.getElem?_eq_some_iff.1 hu).1
    rw [hnews, ← (hfm j (fun o _ => svCells_length o)).2, List.getElem?_drop, ← h4, List.getElem?_take_of_lt (by omega)] at hu
    exact hu
  obtain ⟨AD, hA, hsrc⟩ : ∃ AD : Addr, (if c = j then some (⟨g, 0, none⟩ : Addr) else some ⟨g, j * 4, none⟩) = some AD ∧ Hid (∀ t u, news[t]? = some u → w.drew.cell? (AD.add t) = some u) := by
    by_cases hcj : c = j
    · refine ⟨⟨g, 0, none⟩, by simp [hcj], fun t u hu => ?_⟩
      have h0 : news.length = 0 := by rw [hnl]; omega
      rw [List.length_eq_zero_iff.1 h0] at hu
      simp at hu
    · refine ⟨⟨g, j * 4, none⟩, by simp [hcj], fun t u hu => ?_⟩
      rw [addr_of_add]
      have := hB.drew.cell (j * 4 + t)
      rw [this, ← Array.getElem?_toList]
      exact hcellN t u hu
  have s1 : Hid (news.length = (n - j) * 4) := hnl
  have s2 : Hid (∀ u ∈ news, u.oneCell' = true) := by rw [hnews]; exact svCells_one _
  have s3 : Hid (∀ t, t < news.length → (w.drew.cell? ⟨g, 0 + i * 4 + t, none⟩).isSome = true ∧ w.drew.frozen? ⟨g, 0 + i * 4 + t, none⟩ = false) := by
    intro t ht
    refine ⟨?_, hB.drew.frozen _⟩
    rw [hB.drew.cell, Array.getElem?_eq_getElem (by omega)]
    rfl
  obtain ⟨i0, hi0, hz0, hz1, hz2⟩ := info_parts unit_info
  obtain ⟨W1, hW1⟩ : ∃ W1, W1 = w.drew.setCells g (0 + i * 4) news := ⟨_, rfl⟩
  have hB1 : Blk W1 g 46 (sets cur (0 + i * 4) news) := by rw [hW1]; exact Blk.setCells news _ hB.drew
  have hcl : ∀ ty, (Builtin.clear_ #[32] ty #[.slice (some ⟨g, (i + (n - j)) * 4, none⟩) (n - (i + (n - j))) (c - (i + (n - j)))]).run Tryd.prog W1 = .ok (.tuple #[]) (W1.setCells g ((i + (n - j)) * 4) [.string ⟨#[]⟩, .string ⟨#[]⟩, .slice none 0 0, .slice none 0 0]) := fun ty => by
    rw [show n - (i + (n - j)) = 1 by omega]
    exact run_clear_unit W1 ty g ((i + (n - j)) * 4) _ (fun t ht => by rw [hB1.cell, Array.getElem?_eq_getElem (by rw [sets_size]; omega)]; rfl) (fun t _ => hB1.frozen _)
  have hW : Hid (W1 = w.drew.setCells g (0 + i * 4) news) := hW1
  have HB1 := Lib.hid hB1
  have hci : i ≤ c := by omega
  have hcj : j ≤ c := by omega
  have HJ := Lib.hid hj
  have hij : i < j := by omega
  have hjn : j ≤ n := by omega
  have hne : ((i : Int) == (j : Int)) = false := by simp; omega
  have H4 := Lib.hid h4
  have HNW := Lib.hid hnews
  clear hW1 hB1 hB hb hcellN hj h4 hnews hfm
  go_enter Tryd.func37, Tryd.ntmps37
  go_wp2_with fail
  go_region_law (refine step_append_room rfl (.tmp 22) (.tmp 25) 32 rfl 46 i0 4 Tryd.underlying32 hi0 hz1 g 0 i c (by simp [Act.eval, Act.put]) AD (n - j) (c - j) news (by simp [Act.eval, Act.put]) s1.out hsrc.out s2.out (by omega) s3.out ?_; rw [← hW.out])
  go_wp2
  go_ret
  have hj := HJ.out
  have hm : i + (n - j) = n - 1 := by omega
  have hB2 := Blk.setCells [.string ⟨#[]⟩, .string ⟨#[]⟩, .slice none 0 0, .slice none 0 0] ((i + (n - j)) * 4) HB1.out
  refine ⟨by rw [← hm]; rfl, ⟨?_, .inr ⟨g, c, _, rfl, hbase, hB2, by omega, h2, by rw [sets_size, sets_size, h3], ?_⟩⟩, ?_⟩
  · rw [flatMap_len svCells 4 _ (fun o _ => svCells_length o), List.length_append, List.length_take, List.length_drop]
    omega
  · have hcl : cur.toList.length = c * 4 := by simp [h3]
    have hsz : (sets cur (0 + i * 4) news).toList.length = c * 4 := by rw [Array.length_toList, sets_size, h3]
    rw [sets_list _ _ _ (by rw [sets_size, h3]; simp only [List.length_cons, List.length_nil]; omega), hm]
    have hl1 : ((sets cur (0 + i * 4) news).toList.take ((n - 1) * 4)).length = (n - 1) * 4 := by rw [List.length_take, hsz]; omega
    rw [List.append_assoc, List.take_append, hl1, Nat.sub_self, List.take_zero, List.append_nil, List.take_take, Nat.min_self]
    rw [sets_list _ _ _ (by rw [h3]; have := s1.out; omega), Nat.zero_add]
    have hl2 : (cur.toList.take (i * 4) ++ news).length = (n - 1) * 4 := by rw [List.length_append, List.length_take, s1.out, hcl]; omega
    rw [List.take_append, hl2, Nat.sub_self, List.take_zero, List.append_nil, List.take_of_length_le (by omega), List.flatMap_append]
    congr 1
    · have h5 := congrArg (List.take (i * 4)) H4.out
      rw [List.take_take, show min (i * 4) (n * 4) = i * 4 by omega] at h5
      rw [h5]
      exact (flatMap_take svCells 4 l i (fun o _ => svCells_length o)).1
  · have h0 : w.grownBy w.drew (some g) := ⟨rfl, rfl, rfl, Nat.le_refl _, fun _ _ _ => rfl⟩
    have h5 := grownBy_setCells [.string ⟨#[]⟩, .string ⟨#[]⟩, .slice none 0 0, .slice none 0 0] ((i + (n - j)) * 4) (grownBy_setCells news (0 + i * 4) h0)
    rw [← hW.out] at h5
    exact h5

end Go.Proofs.YtibndaianhlcaaaDoor
namespace Go.Proofs.YtibndaianhlcaaaDoor
open Go.RowKit Go.Sort Go.Shelf
set_option linter.unusedVariables false
set_option linter.unusedSimpArgs false

theorem grown_other {w w' : World} {row : Option Nat} {T : TypeId} (hg : w.grownBy w' row) (ht : ∀ q, row = some q → ∃ cur fr, w.heap[q]? = some (Obj.cells cur T fr)) {e : TypeId} (he : e ≠ T) :
    ∀ (k : Nat) (cur : Array Value) (fr : Nat × Nat), w.heap[k]? = some (Obj.cells cur e fr) → w'.heap[k]? = w.heap[k]? := fun k cur fr hk => by
  have hlt : k < w.heap.size := by
    rcases Nat.lt_or_ge k w.heap.size with h | h
    · exact h
    · rw [Array.getElem?_eq_none h] at hk; cases hk
  refine hg.block k hlt (fun e1 => ?_)
  obtain ⟨cur', fr', h2⟩ := ht k e1.symm
  rw [h2] at hk
  injection hk with hk
  injection hk with _ hk
  exact he hk.symm
theorem row_typed {w : World} {F : Nat → Prop} {e : TypeId} {sz : Nat} {v : Value} {n : Nat} {xs : List Value} (h : Row w F e sz v n xs) : ∀ q, v.ownBlock = some q → ∃ cur fr, w.heap[q]? = some (Obj.cells cur e fr) := fun q hq => by
  rcases h.own.2 with ⟨rfl, _⟩ | ⟨g, cap, cur, rfl, _, h2, _⟩
  · cases hq
  · injection hq with hq
    subst hq
    exact ⟨cur, (0, 0), h2⟩
theorem own_same (A : Option Addr) (n c m d : Nat) : (Value.slice A n c).ownBlock = (Value.slice A m d).ownBlock := by cases A <;> rfl
theorem mem_cut {α : Type} {us : List α} {i j : Nat} {u : α} (hu : u ∈ us.take i ++ us.drop j) : u ∈ us := by
  rcases List.mem_append.1 hu with hu | hu
  · exact List.mem_of_mem_take hu
  · exact List.mem_of_mem_drop hu
theorem srvs_erase (us : List SV) (i : Nat) : (us.take i ++ us.drop (i + 1)).map SV.srv = (us.map SV.srv).eraseIdx i := by
  rw [List.eraseIdx_eq_take_drop_succ, List.map_append, List.map_take, List.map_drop]
section
variable {w w' : World} {F : Nat → Prop} {g : Nat} {s : Mach} {fA : Option Addr} {fn fc : Nat} {es : List EV} {uA : Option Addr} {un uc : Nat} {nA : Option Addr} {nn nc : Nat} {us : List SV} {pA : Option Addr} {pn pc : Nat}
theorem set_other {w : World} {g : Nat} {T : TypeId} {cs : Array Value} (hB : Blk w g T cs) {e : TypeId} (he : e ≠ T) (i : Nat) (v : Value) : ∀ (k : Nat) (cur : Array Value) (fr : Nat × Nat), w.heap[k]? = some (Obj.cells cur e fr) → (w.setCell ⟨g, i, none⟩ v).heap[k]? = w.heap[k]? := fun k cur fr hk => by
  refine Below.heap_setCell w _ _ k (fun e1 => ?_)
  simp only at e1
  subst e1
  unfold Blk at hB
  rw [hB] at hk
  injection hk with hk
  injection hk with _ hk
  exact he hk.symm
theorem MachV.kept2 (h : MachV w F g s fA fn fc es uA un uc nA nn nc us pA pn pc) (hg : w.grownBy w' (Value.slice nA nn nc).ownBlock) : w'.cell? ⟨g, 2, none⟩ = some (.slice nA nn nc) ∧ w'.frozen? ⟨g, 2, none⟩ = false := by
  have hk := grown_other hg (row_typed h.units) (e := 36) (by decide) g _ (0, 0) h.blk
  have hB : Blk w' g 36 _ := hk.trans h.blk
  exact ⟨hB.cell 2, hB.frozen 2⟩
/-- Its units turn. -/
theorem MachV.setUnits (h : MachV w F g s fA fn fc es uA un uc nA nn nc us pA pn pc) {G : Nat → Prop} (hg : w.grownBy w' (Value.slice nA nn nc).ownBlock) (hF : ∀ k, F k → G k) {nA' : Option Addr} {nn' nc' : Nat} {us' : List SV}
    (hu : Row w' G 46 4 (.slice nA' nn' nc') nn' (us'.flatMap svCells))
    (hq : ∀ u ∈ us', u ∈ us ∨ (Row w' G 9 1 (.slice u.A u.n u.c) u.n (u.req.map encStr) ∧ Row w' G 9 1 (.slice u.A2 u.n2 u.c2) u.n2 (u.aft.map encStr) ∧ ∀ k, (Value.slice uA un uc).ownBlock = some k → (Value.slice u.A u.n u.c).ownBlock ≠ some k ∧ (Value.slice u.A2 u.n2 u.c2).ownBlock ≠ some k)) :
    MachV (w'.setCell ⟨g, 2, none⟩ (.slice nA' nn' nc')) G g ⟨s.files, s.users, us'.map SV.srv, s.plan⟩ fA fn fc es uA un uc nA' nn' nc' us' pA pn pc := by
  have ht := row_typed h.units
  have k1 : ∀ {e : TypeId}, e ≠ 46 → _ := fun {e} he => grown_other hg ht (e := e) he
  have hB : Blk w' g 36 _ := (k1 (by decide) g _ (0, 0) h.blk).trans h.blk
  have k2 : ∀ {e : TypeId}, e ≠ 36 → _ := fun {e} he => set_other hB (e := e) he 2 (.slice nA' nn' nc')
  have hs : w'.heap.size ≤ (w'.setCell ⟨g, 2, none⟩ (.slice nA' nn' nc')).heap.size := by simp [World.setCell]
  refine ⟨hB.set_ 2 _, hF _ h.foot, ((h.files.other (k1 (by decide))).other (k2 (by decide))).wide hF, h.ents, fun e he => (((h.data e he).other (k1 (by decide))).other (k2 (by decide))).wide hF, ((h.users.other (k1 (by decide))).other (k2 (by decide))).wide hF,
    hu.other (k2 (by decide)), rfl, fun u hu' => ?_, fun u hu' => ?_, ((h.plan.other hg.size (k1 (by decide))).other hs (k2 (by decide))).wide hF, fun u hu' => ?_⟩
  · rcases hq u hu' with h1 | ⟨h1, _⟩
    · exact (((h.req u h1).other (k1 (by decide))).other (k2 (by decide))).wide hF
    · exact h1.other (k2 (by decide))
  · rcases hq u hu' with h1 | ⟨_, h1, _⟩
    · exact (((h.aft u h1).other (k1 (by decide))).other (k2 (by decide))).wide hF
    · exact h1.other (k2 (by decide))
  · rcases hq u hu' with h1 | ⟨_, _, h1⟩
    · exact h.sep u h1
    · exact h1
end
/-- What a step of a machine does in memory. -/
def MachPost (w : World) (F : Nat → Prop) (g : Nat) (r : Mach × Int) : Ending → World → Prop := fun e w' => e = .returned (.int .i64 r.2) ∧ MachAt w' (Fn F w w') g r.1 ∧ Step w w' F (Fn F w w')
set_option maxRecDepth 100000 in
set_option maxHeartbeats 2000000 in
theorem stop_any {w : World} {F : Nat → Prop} {g : Nat} {s : Mach} (h : MachAt w F g s) (hn24 : s.units.length ≤ 1000000) (name : Txt) :
    Calls Tryd.prog 19 #[.pointer (some ⟨g, 2, none⟩), .string ⟨name.toArray⟩] w (MachPost w F g (doStop s name)) := by
  obtain ⟨fA, fn, fc, es, uA, un, uc, nA, nn, nc, us, pA, pn, pc, h⟩ := h
  have ha := at_any h name
  have hnl := h.nlen
  have HN := Lib.hid hnl
  have H := Lib.hid h
  cases hh : hasU s.units name with
  | false =>
    have HX := Lib.hid (show doStop s name = (s, 0) by unfold doStop; rw [if_pos hh])
    have hat : atU s.units name = -1 := by unfold atU; rw [if_neg (by rw [hh]; decide)]
    rw [hat] at ha
    clear h hh hat hnl
    go_enter Tryd.func19, Tryd.ntmps19
    go_wp2_with (go_at_call 35; refine ha.mono ?_; clear ha; rintro e w1 ⟨rfl, hb1⟩; have HB1 := Lib.hid hb1; clear hb1)
    go_ret
    rw [HX.out]
    exact ⟨rfl, ⟨fA, fn, fc, es, uA, un, uc, nA, nn, nc, us, pA, pn, pc, (H.out.below HB1.out).wide (fn_wide _ _ _)⟩, (Step.of_below HB1.out F).fn⟩
  | true =>
    obtain ⟨hi, _⟩ := idxU_at hh
    have hat : atU s.units name = (idxU s.units name : Int) := by unfold atU; rw [if_pos hh]
    rw [hat] at ha
    obtain ⟨i, hix⟩ : ∃ i, i = idxU s.units name := ⟨_, rfl⟩
    rw [← hix] at ha hi
    have hin : i < nn := by omega
    have i1 : IntKind.i64.wrap ((i : Int) + 1) = (i : Int) + 1 := IntWalk.i64_in _ (by omega)
    have hneg : ¬ (i : Int) < 0 := by omega
    cases hf : failsP s.plan with
    | true =>
      have HX := Lib.hid (show doStop s name = (⟨s.files, s.users, s.units, s.plan.tail⟩, 71) by unfold doStop; rw [if_neg (by rw [hh]; decide), if_pos hf])
      have HF := Lib.hid hf
      clear h hh hat hnl hix hf i1 hi
      go_enter Tryd.func19, Tryd.ntmps19
      go_wp2_with (first
        | (go_at_call 35; refine ha.mono ?_; clear ha; rintro e w1 ⟨rfl, hb1⟩; have HB1 := Lib.hid hb1; have hfl := fails_any (H.out.below hb1); rw [HF.out] at hfl; clear hb1)
        | (go_at_call 36; refine hfl.mono ?_; clear hfl; rintro e w2 ⟨rfl, hm2, hs2, hz2⟩; have HM2 := Lib.hid hm2; have HS2 := Lib.hid ((Step.of_below HB1.out F).trans hs2); clear hm2 hs2 hz2))
      go_ret
      rw [HX.out]
      obtain ⟨qA, qn, qc, hm⟩ := HM2.out
      exact ⟨rfl, ⟨fA, fn, fc, es, uA, un, uc, nA, nn, nc, us, qA, qn, qc, hm.wide (fn_wide _ _ _)⟩, HS2.out.fn⟩
    | false =>
      have HX := Lib.hid (show doStop s name = (⟨s.files, s.users, s.units.eraseIdx i, s.plan.tail⟩, 0) by unfold doStop; rw [if_neg (by rw [hh]; decide), if_neg (by rw [hf]; decide), hix])
      have HF := Lib.hid hf
      have hi62 : i ≤ 1000000 := by omega
      obtain ⟨j, hj⟩ : ∃ j, j = i + 1 := ⟨_, rfl⟩
      have hji : (i : Int) + 1 = (j : Int) := by omega
      have HJ := Lib.hid hj
      clear h hh hat hnl hix hf hi hn24 i1 hj
      go_enter Tryd.func19, Tryd.ntmps19
      go_wp2_with (first
        | (go_at_call 35; refine ha.mono ?_; clear ha; rintro e w1 ⟨rfl, hb1⟩; have HB1 := Lib.hid hb1; have hfl := fails_any (H.out.below hb1); rw [HF.out] at hfl; clear hb1)
        | (go_at_call 36; refine hfl.mono ?_; clear hfl; rintro e w2 ⟨rfl, hm2, hs2, hz2⟩; obtain ⟨qA, qn, qc, hm2⟩ := hm2; have m2 := hm2.facts.2.2.1; have hdl := deleteU_any hm2.units.own i j HJ.out hin; have HM2 := Lib.hid hm2; have HS2 := Lib.hid ((Step.of_below HB1.out F).trans hs2); clear hm2 hs2 hz2)
        | (go_at_call 37; go_loud (refine hdl.mono ?_; clear hdl; rintro e w3 ⟨rfl, ho3, hg3⟩; have hR3 : Row w3 F 46 4 (.slice nA (nn - 1) nc) (nn - 1) ((us.take i ++ us.drop j).flatMap svCells) := ⟨ho3, fun k hk => HM2.out.units.foot k ((own_same nA nn nc (nn - 1) nc).trans hk)⟩; have hv3 := HM2.out.setUnits hg3 (fun _ h => h) hR3 (fun u hu => .inl (mem_cut hu)); obtain ⟨hB3, hf3⟩ := HM2.out.kept2 hg3; have HV3 := Lib.hid hv3; have HG3 := Lib.hid hg3; clear ho3 hg3 hR3 hv3)))
      go_ret
      rw [HX.out]
      have hst := (HS2.out.grown HG3.out (fun k hk => .inl (HM2.out.units.foot k hk))).setCell (p := ⟨g, 2, none⟩) (.inl H.out.foot) (.slice nA (nn - 1) nc)
      have hq := HV3.out
      have he : (us.take i ++ us.drop j).map SV.srv = s.units.eraseIdx i := by rw [HJ.out, srvs_erase, H.out.srvs]
      rw [he] at hq
      exact ⟨rfl, ⟨_, _, _, _, _, _, _, _, _, _, _, _, _, _, hq.wide (fn_wide _ _ _)⟩, hst.fn⟩
end Go.Proofs.YtibndaianhlcaaaDoor
namespace Go.Proofs.YtibndaianhlcaaaDoor
open Go.RowKit Go.Sort Go.Shelf
set_option linter.unusedVariables false
set_option linter.unusedSimpArgs false

theorem strs_one (l : List Txt) : ∀ u ∈ l.map encStr, u.oneCell' = true := by
  intro u hu
  obtain ⟨c, _, rfl⟩ := List.mem_map.1 hu
  rfl
/-- Texts copied into a block of their own: append([]string{}, l...). -/
structure Copied (W : World) (A : Option Addr) (n c : Nat) (l : List Txt) (g c' : Nat) (w' : World) : Prop where
  run : (Builtin.append_ #[29, 29] 29 #[.slice (some ⟨W.heap.size, 0, none⟩) 0 0, .slice A n c]).run Tryd.prog (W.alloc (.cells #[] 9)) = .ok (.slice (some ⟨g, 0, none⟩) n c') w'
  own : w'.ownsRow W.heap.size 9 1 (.slice (some ⟨g, 0, none⟩) n c') n (l.map encStr)
  ge : W.heap.size ≤ g
  lt : g < w'.heap.size
  bel : Below W.heap.size W w'
theorem strs_copy {W : World} {B : Nat} {A : Option Addr} {n c : Nat} {l : List Txt} (h : Slc W B 1 A n c (l.map encStr)) (hB : B ≤ W.heap.size) (hn : n ≤ 1000000000) : ∃ g c' w', Copied W A n c l g c' w' := by
  have ho : (W.alloc (.cells #[] 9)).ownsRow W.heap.size 9 1 (.slice (some ⟨W.heap.size, 0, none⟩) 0 0) 0 [] := World.ownsRow_made W #[] 0 (Nat.le_refl _) (Nat.zero_le _) rfl
  have hb1 : Below W.heap.size W (W.alloc (.cells #[] 9)) := (Below.refl _ W).alloc (Nat.le_refl _) _
  obtain ⟨i, hi, hz0, hz1, hz2⟩ := info_parts str_info
  obtain ⟨A3, c3, w3, r3, o3, g3, hv3⟩ := append_slc (P := Tryd.prog) (W.alloc (.cells #[] 9)) W.heap.size 29 29 _ i _ 1 16 Tryd.underlying29 hi hz0 hz1 hz2 rfl (by decide) _ 0 [] ho B A n c (l.map encStr) (h.below (hb1.mono hB)) (strs_one l) (by unfold maxLen; omega) (by omega) (by simp)
  rw [Nat.zero_add] at r3 o3
  rw [List.nil_append] at o3
  have hb3 := grown_below hb1 ho (by simp) g3
  rcases o3.2 with ⟨hnil, h0⟩ | ⟨gd, cap, cur, e1, e2, e3, _⟩
  · exfalso
    injection hnil with e1 e2 e3
    subst e1
    rcases hv3 with hv3 | hv3 <;> simp [Value.ownBlock] at hv3
  · injection e1 with e1
    subst e1
    exact ⟨gd, c3, w3, r3, o3, e2, (Array.getElem?_eq_some_iff.1 e3).1, hb3⟩
/-- What unit gives: the unit, in blocks of its own. -/
structure UnitOut (w w' : World) (x : Srv) (u : SV) : Prop where
  srv : u.srv = x
  own1 : w'.ownsRow w.heap.size 9 1 (.slice u.A u.n u.c) u.n (u.req.map encStr)
  own2 : w'.ownsRow w.heap.size 9 1 (.slice u.A2 u.n2 u.c2) u.n2 (u.aft.map encStr)
  ne : (Value.slice u.A u.n u.c).ownBlock ≠ (Value.slice u.A2 u.n2 u.c2).ownBlock
  bel : Below w.heap.size w w'
set_option maxRecDepth 100000 in
set_option maxHeartbeats 1000000 in
theorem unit_any {w : World} {B : Nat} (u : SV) (h1 : Slc w B 1 u.A u.n u.c (u.req.map encStr)) (h2 : Slc w B 1 u.A2 u.n2 u.c2 (u.aft.map encStr)) (hB : B ≤ w.heap.size) (hn : u.n ≤ 1000000000 ∧ u.n2 ≤ 1000000000) :
    Calls Tryd.prog 18 #[.agg (svArr u)] w fun e w' => ∃ u', e = .returned (.agg (svArr u')) ∧ UnitOut w w' u.srv u' := by
  obtain ⟨nm, st, rq, A, n, c, af, A2, n2, c2⟩ := u
  simp only at h1 h2 hn
  obtain ⟨W1, hW1⟩ : ∃ W1, W1 = (w.alloc (.cells #[.string ⟨nm.toArray⟩, .string ⟨st.toArray⟩, .slice A n c, .slice A2 n2 c2] 46)).alloc (.cells #[.string .empty, .string .empty, .slice none 0 0, .slice none 0 0] 46) := ⟨_, rfl⟩
  have hb1 : Below w.heap.size w W1 := by rw [hW1]; exact ((Below.refl _ w).alloc (Nat.le_refl _) _).alloc (by simp) _
  have hz1 : W1.heap.size = w.heap.size + 2 := by rw [hW1]; simp
  have hG1 : Blk W1 w.heap.size 46 #[.string ⟨nm.toArray⟩, .string ⟨st.toArray⟩, .slice A n c, .slice A2 n2 c2] := by rw [hW1]; exact (Blk.new _ _ _).alloc _
  have hR1 : Blk W1 (w.heap.size + 1) 46 #[.string .empty, .string .empty, .slice none 0 0, .slice none 0 0] := by
    rw [hW1]
    have := Blk.new (w.alloc (.cells #[.string ⟨nm.toArray⟩, .string ⟨st.toArray⟩, .slice A n c, .slice A2 n2 c2] 46)) 46 #[.string .empty, .string .empty, .slice none 0 0, .slice none 0 0]
    rwa [World.size_alloc] at this
  obtain ⟨g3, c3, w3, S3⟩ := strs_copy (h1.below (hb1.mono hB)) (by omega) hn.1
  have hG3 := hG1.below S3.bel hG1.lt
  have hR3 := hR1.below S3.bel hR1.lt
  have hG4 := hG3.set_ 2 (.slice (some ⟨g3, 0, none⟩) n c3)
  obtain ⟨W4, hW4⟩ : ∃ W4, W4 = w3.setCell ⟨w.heap.size, 2, none⟩ (.slice (some ⟨g3, 0, none⟩) n c3) := ⟨_, rfl⟩
  have hz4 : W4.heap.size = w3.heap.size := by rw [hW4]; simp [World.setCell]
  have hb4 : Below w.heap.size w W4 := by rw [hW4]; exact (hb1.trans (S3.bel.mono hb1.size)).setCell (Nat.le_refl _) _
  have hR4 : Blk W4 (w.heap.size + 1) 46 #[.string .empty, .string .empty, .slice none 0 0, .slice none 0 0] := by
    rw [hW4]; unfold Blk at hR3 ⊢; rw [Below.heap_setCell w3 _ _ _ (by simp)]; exact hR3
  have ho4 : W4.ownsRow w.heap.size 9 1 (.slice (some ⟨g3, 0, none⟩) n c3) n (rq.map encStr) := by
    rw [hW4]
    refine own_put ?_ (by simp only [Value.ownBlock]; intro e; injection e with e; have := S3.ge; omega) _
    exact ⟨S3.own.1, S3.own.2.imp id fun ⟨g', cap, cur, e, he, r⟩ => ⟨g', cap, cur, e, by omega, r⟩⟩
  rw [← hW4] at hG4
  obtain ⟨g5, c5, w5, S5⟩ := strs_copy (h2.below (hb4.mono hB)) (Nat.le_trans hB hb4.size) hn.2
  have hG5 := hG4.below S5.bel hG4.lt
  have hR5 := hR4.below S5.bel hR4.lt
  have ho5 := own_keep ho4 (fun k hk => S5.bel.block k (ho4.lt k hk).2)
  have hG6 := hG5.set_ 3 (.slice (some ⟨g5, 0, none⟩) n2 c5)
  have hb6 := (hb4.trans (S5.bel.mono hb4.size)).setCell (p := ⟨w.heap.size, 3, none⟩) (Nat.le_refl _) (.slice (some ⟨g5, 0, none⟩) n2 c5)
  have hg5 := S5.ge
  have hg3 := S3.lt
  have hg31 := S3.ge
  have hR6 : Blk (w5.setCell ⟨w.heap.size, 3, none⟩ (.slice (some ⟨g5, 0, none⟩) n2 c5)) (w.heap.size + 1) 46 #[.string .empty, .string .empty, .slice none 0 0, .slice none 0 0] := by
    unfold Blk at hR5 ⊢; rw [Below.heap_setCell w5 _ _ _ (by simp)]; exact hR5
  have ho6 := own_put (p := ⟨w.heap.size, 3, none⟩) ho5 (by simp only [Value.ownBlock]; intro e; injection e with e; omega) (.slice (some ⟨g5, 0, none⟩) n2 c5)
  have ho7 := own_put (p := ⟨w.heap.size, 3, none⟩) S5.own (by simp only [Value.ownBlock]; intro e; injection e with e; omega) (.slice (some ⟨g5, 0, none⟩) n2 c5)
  obtain ⟨W6, hW6⟩ : ∃ W6, W6 = w5.setCell ⟨w.heap.size, 3, none⟩ (.slice (some ⟨g5, 0, none⟩) n2 c5) := ⟨_, rfl⟩
  rw [← hW6] at hR6 ho6 ho7 hb6 hG6
  simp only [List.setIfInBounds_toArray, List.set_cons_zero, List.set_cons_succ] at hG6 hG4 hG5
  have HR := Lib.hid (hR6.set_ 0 (.string ⟨nm.toArray⟩))
  have HO : Hid (UnitOut w ((((W6.setCell ⟨w.heap.size + 1, 0, none⟩ (.string ⟨nm.toArray⟩)).setCell ⟨w.heap.size + 1, 1, none⟩ (.string ⟨st.toArray⟩)).setCell ⟨w.heap.size + 1, 2, none⟩ (.slice (some ⟨g3, 0, none⟩) n c3)).setCell ⟨w.heap.size + 1, 3, none⟩ (.slice (some ⟨g5, 0, none⟩) n2 c5)) ⟨nm, st, rq, af⟩ ⟨nm, st, rq, some ⟨g3, 0, none⟩, n, c3, af, some ⟨g5, 0, none⟩, n2, c5⟩) := by
    have hne3 : (Value.slice (some ⟨g3, 0, none⟩) n c3).ownBlock ≠ some (w.heap.size + 1) := by simp only [Value.ownBlock]; intro e; injection e with e; omega
    have hne5 : (Value.slice (some ⟨g5, 0, none⟩) n2 c5).ownBlock ≠ some (w.heap.size + 1) := by simp only [Value.ownBlock]; intro e; injection e with e; omega
    refine ⟨rfl, own_put (own_put (own_put (own_put ho6 hne3 _) hne3 _) hne3 _) hne3 _, ?_, by simp only [Value.ownBlock]; intro e; injection e with e; omega, (((hb6.setCell (by simp) _).setCell (by simp) _).setCell (by simp) _).setCell (by simp) _⟩
    have := own_put (own_put (own_put (own_put ho7 hne5 (p := ⟨w.heap.size + 1, 0, none⟩) (.string ⟨nm.toArray⟩)) hne5 (p := ⟨w.heap.size + 1, 1, none⟩) (.string ⟨st.toArray⟩)) hne5 (p := ⟨w.heap.size + 1, 2, none⟩) (.slice (some ⟨g3, 0, none⟩) n c3)) hne5 (p := ⟨w.heap.size + 1, 3, none⟩) (.slice (some ⟨g5, 0, none⟩) n2 c5)
    exact ⟨this.1, this.2.imp id fun ⟨g', cap, cur, e, he, r⟩ => ⟨g', cap, cur, e, by omega, r⟩⟩
  have HRES : Hid (Blk ((((W6.setCell ⟨w.heap.size + 1, 0, none⟩ (.string ⟨nm.toArray⟩)).setCell ⟨w.heap.size + 1, 1, none⟩ (.string ⟨st.toArray⟩)).setCell ⟨w.heap.size + 1, 2, none⟩ (.slice (some ⟨g3, 0, none⟩) n c3)).setCell ⟨w.heap.size + 1, 3, none⟩ (.slice (some ⟨g5, 0, none⟩) n2 c5)) (w.heap.size + 1) 46 (svArr ⟨nm, st, rq, some ⟨g3, 0, none⟩, n, c3, af, some ⟨g5, 0, none⟩, n2, c5⟩)) :=
    (((hR6.set_ 0 (.string ⟨nm.toArray⟩)).set_ 1 (.string ⟨st.toArray⟩)).set_ 2 (.slice (some ⟨g3, 0, none⟩) n c3)).set_ 3 (.slice (some ⟨g5, 0, none⟩) n2 c5)
  have r3 := S3.run
  have r5 := S5.run
  rw [hz1, hW1] at r3
  rw [hz4, hW4] at r5
  have HR3 := Lib.hid r3
  have HR5 := Lib.hid r5
  have HW6 := Lib.hid hW6
  have x0 := hG3.cell 0
  have x1 := hG3.cell 1
  have x2 := hG3.cell 2
  have x3 := hG3.cell 3
  have f2 := hG3.frozen 2
  have y0 := hG5.cell 0
  have y1 := hG5.cell 1
  have y2 := hG5.cell 2
  have y3 := hG5.cell 3
  have f3 := hG5.frozen 3
  have z0 := hG6.cell 0
  have z1 := hG6.cell 1
  have z2 := hG6.cell 2
  have z3 := hG6.cell 3
  have q0 := hR6.cell 0
  have q1 := hR6.cell 1
  have q2 := hR6.cell 2
  have q3 := hR6.cell 3
  have qf := hR6.frozen
  simp only [List.getElem?_toArray, List.getElem?_cons_zero, List.getElem?_cons_succ] at x0 x1 x2 x3 y0 y1 y2 y3 z0 z1 z2 z3 q0 q1 q2 q3
  rw [hW6] at z0 z1 z2 z3 q0 q1 q2 q3
  have qf0 := qf 0
  have qf1 := qf 1
  have qf2 := qf 2
  have qf3 := qf 3
  rw [hW6] at qf0 qf1 qf2 qf3
  rw [hW6] at HRES HO
  have l3 : w.heap.size < w3.heap.size := by have := S3.bel.size; omega
  have l5 : w.heap.size < w5.heap.size := by have := S5.bel.size; omega
  clear S3 S5 r3 r5 hW6 hG3 hG4 hG5 hG6 hR3 hR4 hR5 hR6 qf ho4 ho5 ho6 ho7 hb1 hb4 hb6 hW1 hW4 hG1 hR1 h1 h2 hz1 hz4 HR HW6
  unfold svArr
  go_enter Tryd.func18, Tryd.ntmps18
  go_wp2_with (first
    | (at_builtin; refine wpList_append_run rfl _ _ _ rfl rfl rfl HR3.out ?_; clear HR3)
    | (at_builtin; refine wpList_append_run rfl _ _ _ rfl rfl rfl HR5.out ?_; clear HR5))
  exact bodyPost_ret (results_aggr (t := 2) (g := w.heap.size + 1) rfl rfl Tryd.isAgg46 Tryd.sizeOf46 rfl HRES.out) rfl ⟨_, rfl, HO.out⟩
end Go.Proofs.YtibndaianhlcaaaDoor
namespace Go.Proofs.YtibndaianhlcaaaDoor
open Go.RowKit Go.Shelf
set_option linter.unusedVariables false
set_option linter.unusedSimpArgs false

theorem make_ents_mark (n c : Value) : Instr.makeSlice 28 n c = MakeS 28 n c := rfl
theorem make_ents (W : World) (base N : Nat) (hN : N ≤ 100000000) (hb : base ≤ W.heap.size) : ∃ w', Sem.run Tryd.prog (MakeS 28 (.int .i64 0) (.int .i64 (N : Int))) W = .ok (.slice (some ⟨W.heap.size, 0, none⟩) 0 N) w' ∧ w'.ownsRow base 44 3 (.slice (some ⟨W.heap.size, 0, none⟩) 0 N) 0 [] ∧ W.grownBy w' none := by
  obtain ⟨i, hi, hz, hs, hby⟩ := info_parts ent_info
  exact run_make_own (P := Tryd.prog) W base 28 44 i _ 3 Tryd.underlying28 hi hz hs .i64 .i64 N (by rw [hby]; omega) (by unfold maxLen; omega) hb

/-- One round of copied: the bytes are copied, the entry is put behind. -/
structure CopyStep (wr : World) (base : Nat) (A' : Option Addr) (k c' : Nat) (es : List EV) (e : EV) (W2 w3 : World) (g3 : Nat) (c3 : Nat) (A6 : Option Addr) (c6 : Nat) (w6 : World) : Prop where
  r3 : (Builtin.append_ #[42, 42] 42 #[.slice (some ⟨wr.heap.size + 1, 0, none⟩) 0 0, .slice e.A e.n e.c]).run Tryd.prog ((wr.alloc (.cells #[.string ⟨e.path.toArray⟩, .int .i64 e.kind, .slice e.A e.n e.c] 44)).alloc (.cells #[] 5)) = .ok (.slice (some ⟨g3, 0, none⟩) e.n c3) w3
  blk : Blk w3 wr.heap.size 44 #[.string ⟨e.path.toArray⟩, .int .i64 e.kind, .slice e.A e.n e.c]
  r6 : (Builtin.append_ #[28, 28] 28 #[.slice A' k c', .slice (some ⟨w3.heap.size, 0, none⟩) 1 1]).run Tryd.prog ((w3.setCell ⟨wr.heap.size, 2, none⟩ (.slice (some ⟨g3, 0, none⟩) e.n c3)).alloc (.cells #[.string ⟨e.path.toArray⟩, .int .i64 e.kind, .slice (some ⟨g3, 0, none⟩) e.n c3] 44)) = .ok (.slice A6 (k + 1) c6) w6
  own : OwnEnts w6 base (.slice A6 (k + 1) c6) (k + 1) (es ++ [⟨e.path, e.kind, e.data, some ⟨g3, 0, none⟩, e.n, c3⟩])
  bel3 : Below wr.heap.size wr w3
set_option maxRecDepth 100000 in
theorem copy_step {w wr : World} {A' : Option Addr} {k c' : Nat} {es : List EV} {B : Nat} (h : OwnEnts wr w.heap.size (.slice A' k c') k es) (hb : Below w.heap.size w wr) (e : EV) (hS : Slc wr B 1 e.A e.n e.c (e.data.map bv)) (hB : B ≤ wr.heap.size) (hk : k ≤ 1000000000) (hn : e.n ≤ 1000000000) :
    ∃ W2 w3 g3 c3 A6 c6 w6, CopyStep wr w.heap.size A' k c' es e W2 w3 g3 c3 A6 c6 w6 ∧ Below w.heap.size w w6 := by
  obtain ⟨W1, hW1⟩ : ∃ W1, W1 = wr.alloc (.cells #[.string ⟨e.path.toArray⟩, .int .i64 e.kind, .slice e.A e.n e.c] 44) := ⟨_, rfl⟩
  have hb1 : Below wr.heap.size wr W1 := by rw [hW1]; exact (Below.refl _ wr).alloc (Nat.le_refl _) _
  have hz1 : W1.heap.size = wr.heap.size + 1 := by rw [hW1]; simp
  have hG1 : Blk W1 wr.heap.size 44 #[.string ⟨e.path.toArray⟩, .int .i64 e.kind, .slice e.A e.n e.c] := by rw [hW1]; exact Blk.new _ _ _
  have ho2 := empty_own W1 W1.heap.size (Nat.le_refl _)
  have hb2 : Below W1.heap.size W1 (W1.alloc (.cells #[] 5)) := (Below.refl _ W1).alloc (Nat.le_refl _) _
  obtain ⟨A3, c3, w3, r3, o3, g3, hv3⟩ := append_bytes (W1.alloc (.cells #[] 5)) W1.heap.size _ 0 [] ho2 B e.A e.n e.c e.data ((hS.below (hb1.mono hB)).below (hb2.mono (by rw [hz1]; omega))) (by omega) (by simp)
  rw [Nat.zero_add] at r3 o3
  rw [List.nil_append] at o3
  have hb3 := grown_below hb2 ho2 (by simp) g3
  -- the new bytes lie in a block of their own
  obtain ⟨gd, hA3, hgd, hgd2⟩ : ∃ gd, A3 = some ⟨gd, 0, none⟩ ∧ W1.heap.size ≤ gd ∧ gd < w3.heap.size := by
    rcases o3.2 with ⟨hnil, h0⟩ | ⟨gd, cap, cur, e1, e2, e3, _⟩
    · exfalso
      injection hnil with e1 e2 e3
      subst e1
      rcases hv3 with hv3 | hv3 <;> simp [Value.ownBlock] at hv3
    · injection e1 with e1
      exact ⟨gd, e1, e2, (Array.getElem?_eq_some_iff.1 e3).1⟩
  subst hA3
  have hG3 := hG1.below hb3 hG1.lt
  have hS3 := own_slc_of o3
  have hbw3 : Below wr.heap.size wr w3 := hb1.trans (hb3.mono (by rw [hz1]; omega))
  have h3 := h.below hbw3
  have hob : (Value.slice A' k c').ownBlock ≠ some wr.heap.size := fun e => Nat.lt_irrefl _ (h.own.lt _ e).2
  have hog : (Value.slice A' k c').ownBlock ≠ some gd := fun e => by have := (h.own.lt _ e).2; omega
  have h4 : OwnEnts (w3.setCell ⟨wr.heap.size, 2, none⟩ (.slice (some ⟨gd, 0, none⟩) e.n c3)) w.heap.size (.slice A' k c') k es :=
    h3.set_ (by simpa using hob) (fun x hx g hg => by
      obtain ⟨g', h1, _, h5, _⟩ := h.data x hx
      rw [hg] at h1
      injection h1 with h1
      injection h1 with h1
      simp only
      omega) _
  have hsz4 : (w3.setCell ⟨wr.heap.size, 2, none⟩ (.slice (some ⟨gd, 0, none⟩) e.n c3)).heap.size = w3.heap.size := by simp [World.setCell]
  have hS4 : Slc (w3.setCell ⟨wr.heap.size, 2, none⟩ (.slice (some ⟨gd, 0, none⟩) e.n c3)) w3.heap.size 1 (some ⟨gd, 0, none⟩) e.n c3 (e.data.map bv) := by
    refine ⟨hS3.len, hS3.le, hS3.cmax, fun hn => ?_⟩
    obtain ⟨b, off, e1, hb, hc⟩ := hS3.at_ hn
    refine ⟨b, off, e1, hb, fun j u hu => ?_⟩
    injection e1 with e1
    injection e1 with e1
    rw [World.cell?_of_block (w := w3) (a := ⟨b, off + j, none⟩) (Below.heap_setCell w3 _ _ b (by simp only; omega))]
    exact hc j u hu
  have hbw4 : Below w.heap.size w (w3.setCell ⟨wr.heap.size, 2, none⟩ (.slice (some ⟨gd, 0, none⟩) e.n c3)) := (hb.trans (hbw3.mono hb.size)).setCell (p := ⟨wr.heap.size, 2, none⟩) hb.size _
  obtain ⟨A6, c6, w6, r6, o6, g6, _⟩ := h4.append ⟨e.path, e.kind, e.data, some ⟨gd, 0, none⟩, e.n, c3⟩ (by rw [hsz4]; exact hS4) ⟨gd, rfl, by have := hb.size; omega, by rw [hsz4]; exact hgd2, hog⟩ (fun g hg => by injection hg with hg; injection hg with hg; subst hg; exact (FreeB.own o3).set_ _ _) hk (by rw [hsz4]; exact Nat.le_trans hb.size hbw3.size)
  rw [hsz4] at r6
  refine ⟨W1, w3, gd, c3, A6, c6, w6, ⟨by rw [hW1, World.size_alloc] at r3; exact r3, hG3, r6, o6, hbw3⟩, ?_⟩
  exact grown_below (hbw4.alloc hbw4.size _) (h4.own.alloc _) (by have := hbw4.size; simp; omega) g6

end Go.Proofs.YtibndaianhlcaaaDoor
