/-
  Join of package cue, by classes and a search by breadth, for books and evenings as told at each, in every heap. Conditions: at each theorem.
-/
import Derived.Test.YtdhdaadoehbopaaGreatDoorVc
import Derived.Test.YtdhdaadoehbopaaGreatDoorCt
import Derived.Test.YtdhdaadoehbopaaGreatDoorCr
import Derived.Test.YtdhdaadoehbopaaGreatDoorCf
import Derived.Test.YtdhdaadoehbopaaGreatDoorCj

namespace Go.Vm
open Go.Proofs
def clMap (b : Book) (cl : Sta → Nat) : Blk := .map (.arr 2) (kE (cE (allP b.vs) cl))
def joiH (b : Book) (cl : Sta → Nat) : List Blk := [bBox b, clMap b cl, .box [.mp 1] 138]
noncomputable def joiL (b : Book) (cl : Sta → Nat) : List (Nat × Blk) := [(0, bBox b), (1, clMap b cl), (2, .box [.mp 1] 138)]
theorem joiH_under (b : Book) (cl : Sta → Nat) : ∀ B ∈ joiH b cl, B.under 3 := fun B hB => by
 rcases List.mem_cons.1 hB with rfl | hB
 ·exact bBox_under _ _
 ·rcases List.mem_cons.1 hB with rfl | hB
  ·exact under_kE _
  ·rw [List.mem_singleton] at hB; subst hB; exact ⟨ltb rfl, trivial⟩
end Go.Vm

namespace Go.Vm
open Go.Proofs
theorem HT.first3 {t : Trie Blk} {n : Nat} {H : List Blk} {b : Book} {cl : Sta → Nat} (hH : HT t n H) (hb : Blks (get t) noLo (joiL b cl)) : ∃ H2, H = joiH b cl ++ H2 := by
 have e0 : H.take 3 = hp (joiL b cl) := take_full (l := joiL b cl) ⟨rfl, rfl, rfl, trivial⟩ fun q hq => hH.blk _ _ (hb.mem q hq).1
 exact ⟨H.drop 3, by show H = hp (joiL b cl) ++ H.drop 3; rw [← e0, List.take_append_drop]⟩
def stpG (nx : Pos → Nat → Pos) (x : Pos) (l : List Nat) (s : Bf) : Nat → Bf
 | 0 => s
 | r + 1 => if nx x r ∈ (stpG nx x l s r).met then stpG nx x l s r else ⟨(stpG nx x l s r).q ++ [(nx x r, l ++ [r])], (stpG nx x l s r).met ++ [nx x r], (stpG nx x l s r).g + 1⟩
end Go.Vm

namespace Go.Vm
open Go.Proofs
theorem Found.congr {K : Type} {next : K → Nat → K} {done done' : K → Prop} {st : K} {c : Nat} {o : Option (List Nat)} (h : Found next done st c o) (he : ∀ l, OkL c l → (done (runB next st l) ↔ done' (runB next st l))) : Found next done' st c o := by
 refine ⟨fun l hl => ?_, fun hn u hu hd => h.no hn u hu ((he u hu).2 hd)⟩
 obtain ⟨h1, h2, h3⟩ := h.yes l hl
 exact ⟨h1, (he l h1).1 h2, fun u hu hd => h3 u hu ((he u hu).2 hd)⟩
theorem er_ok {vs : List Vers} {K : Nat} {L : List Int} (hv : ∀ v ∈ vs, VersOk v K) (hv0 : ∀ v ∈ vs, 0 < v.length) (hL : LeftOk vs L) {l : List Nat} (hl : OkL K l) (n : Nat) : PosOk vs n (erI vs L l n) := by
 unfold erI
 by_cases h : (n : Int) ∈ L
 ·rw [if_pos h]
  have hn : n < vs.length := hL.nat n h
  have hm : vs.getD n [] ∈ vs := vAt_in hn
  have := after_lt (hv _ hm) (cuesI_ok hl) (hv0 _ hm)
  exact .inr ⟨by omega, hn, by omega⟩
 ·rw [if_neg h]; exact .inl rfl
theorem remL_left {b : Book} (hn : b.vs.length ≤ 4) (evs : List Evening) : LeftOk b.vs (remL b.vs evs b.vs.length) :=
 ⟨fun _ h => remL_mem h, Nat.le_trans (remL_length _ _ _) hn⟩
end Go.Vm
