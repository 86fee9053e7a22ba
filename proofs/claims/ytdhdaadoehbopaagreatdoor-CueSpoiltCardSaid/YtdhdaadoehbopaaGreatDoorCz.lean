/-
  Games of several versions: how many cues are needed; code told in pieces, on which this claim rests; no statement of the program is proved here. Conditions: none.
-/
import Derived.Test.YtdhdaadoehbopaaGreatDoorVc

namespace Go.Vm
open Go.Proofs
variable {P : Program} {ro : Option Nat} {k : Nat} {vars : Trie AV} {t : Trie Blk} {n lo : Nat} {d : List Nat} {Q : CodeQ}
theorem WR.of {m : Bool} {c : Code} (hm : P.follows .mixedOrders = true) (h : gCode P m k ro c vars t n d lo Q) : WR P ro c k vars t n d lo Q := gCode_spec hm c _ _ _ _ _ _ h
theorem WR.seq {a b : Code} (h : WR P ro a k vars t n d lo fun x e lo' => match x with
  | .normal => WR P ro b k e.vars e.t e.n e.defs lo' Q
  | x => Q x e lo') : WR P ro (.seq a b) k vars t n d lo Q := fun H H0 hH hk => by
 obtain ⟨x, ⟨vars1, t1, n1, d1⟩, lo1, H1, hH1, hk1, r1, q⟩ := h H H0 hH hk
 cases x with
 | normal =>
  obtain ⟨x, e2, lo2, H2, hH2, hk2, r2, q2⟩ := q H1 H0 hH1 hk1
  exact ⟨x, e2, lo2, H2, hH2, hk2, .seq r1 r2, q2⟩
 | _ => exact ⟨_, ⟨vars1, t1, n1, d1⟩, lo1, H1, hH1, hk1, .seq_out r1 rfl, q⟩
end Go.Vm
