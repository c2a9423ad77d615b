/- The walks of tree.Find, tree.Digest and of the law's copied (layer 8). -/
import Derived.Test.YtdhlklidenfbeaaDoorLaw08T
import Derived.Test.YtdhlklidenfbeaaDoorSumText
namespace Go.Proofs.YtdhlklidenfbeaaDoor
open Go.RowKit Go.Shelf
set_option linter.unusedVariables false
set_option linter.unusedSimpArgs false

/-- What Digest tells. -/
def digestB (l : List Ent) : Txt := hexl 16 (updAll begin64 (bytesB l)).toNat
set_option maxRecDepth 100000 in
set_option maxHeartbeats 1000000 in
theorem digest_any {w : World} {B : Nat} {A : Option Addr} {n c : Nat} {es : List EV} (h : EntsAt w B A n c es) (hB : B ≤ w.heap.size) (hp : ∀ e ∈ es, e.path.length ≤ 1000000000) (hsm : ∀ e ∈ es, ∃ a, e.A = some a ∧ a.block < B)
    (hit : rightB (es.map EV.ent) = true → ∀ e ∈ es, ItoaOk w (e.data.length : Int)) :
    Calls Tryd.prog 52 #[.slice A n c] w fun e w' => e = .returned (.string ⟨(digestB (es.map EV.ent)).toArray⟩) ∧ Below w.heap.size w w' := by
  have hby := bytes_any h hB hp hsm hit
  unfold digestB
  generalize bytesB (es.map EV.ent) = t at *
  go_enter Tryd.func52, Tryd.ntmps52
  go_wp2_with (first
    | (go_at_call 51; refine hby.mono ?_; clear hby; rintro e1 w1 ⟨A1, n1, c1, rfl, ho1, hb1⟩; have hsu := sum_any A1 n1 c1 _ t w1 (own_slc_of ho1))
    | (go_at_call 93; refine hsu.mono ?_; clear hsu; rintro e2 w2 ⟨rfl, rfl⟩; have htx := text_any (updAll begin64 t) w1)
    | (go_at_call 92; refine htx.mono ?_; clear htx; rintro e3 w3 ⟨rfl, hb3⟩))
  go_ret
  exact ⟨rfl, hb1.trans (hb3.mono hb1.size)⟩
end Go.Proofs.YtdhlklidenfbeaaDoor
