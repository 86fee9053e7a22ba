/-
  Contracts of functions of packages kelirlaw04, kelirref04, kelirref02, cue and slices, for books, evenings and lists as told at each, in every heap. Conditions: at each theorem. (What is played, with the errors.)
-/
import Derived.Test.YtdhdaadoehbopaaGreatDoorCa
import Derived.Test.YtdhdaadoehbopaaGreatDoorVk

/-
  CuePlays: its walk. (Own work.)
-/
namespace Go.Vm
open Go.Proofs

set_option maxRecDepth 100000 in
theorem c_check {b : Book} (hl : BLen b) (H : List Blk) : ACall Tryz.prog 80 [eBook b] H (.ret (n' (if BOk b then 0 else 2))) H := by
  refine fn_rule (m := false) (fn := Tryz.f80) (c := (Tryz.f80.body).getD .skip) mixed (by kernel_rfl) (by kernel_rfl) (of_decide_eq_true (by kernel_rfl)) ?_ ?_ ?_ H
  · exact ⟨under_eBook 0 _, trivial⟩
  · trivial
  · refine CallG.bool (c_isBook hl) (fun h => ?_) (fun h => ?_)
    · refine IfB.mk (fun e => by cases e) (fun _ => ?_)
      rw [if_pos h]
      exact ⟨.inl rfl, FinG.mk _ rfl rfl rfl⟩
    · refine IfB.mk (fun _ => ?_) (fun e => by cases e)
      rw [if_neg h]
      exact ⟨.inl rfl, FinG.mk _ rfl rfl rfl⟩

theorem c_check_ok {b : Book} (hl : BLen b) (h : BOk b) (H : List Blk) : ACall Tryz.prog 80 [eBook b] H (.ret (n' 0)) H := by
  have := c_check hl H
  rwa [if_pos h] at this
theorem c_check_no {b : Book} (hl : BLen b) (h : ¬ BOk b) (H : List Blk) : ACall Tryz.prog 80 [eBook b] H (.ret (n' 2)) H := by
  have := c_check hl H
  rwa [if_neg h] at this

theorem c_plays_no {b : Book} (hb : BLen b) {i : Int} {l : List Int} (hl : l.length < 4611686018427387904) (h : ¬ (BOk b ∧ inI i 0 (b.vs.length - 1) ∧ LList b l)) (H : List Blk) :
    ACall Tryz.prog 33 [eBook b, n' i, eInts l] H (.ret (.tup [.lit (.slice none 0 0), .lit (.int .i64 2)])) H := by
  have e := c_plays hb i l hl H
  unfold playsR at e
  rwa [if_neg h] at e

set_option maxRecDepth 100000 in
theorem c_refPlays {v : Vers} {k : Nat} {cues : List Int} (hv : VersOk v k) (hs : 0 < v.length) (hc : CuesOk k cues) (hL : cues.length < 1000000) (H : List Blk) :
    ACall Tryz.prog 81 [eVersion v, eInts cues] H (.ret (eInts (plays v 0 cues))) H := by
  refine fn_rule (m := false) (fn := Tryz.f81) (c := (Tryz.f81.body).getD .skip) mixed (by kernel_rfl) (by kernel_rfl) (of_decide_eq_true (by kernel_rfl)) ?_ ?_ ?_ H
  · exact ⟨under_eVersion 0 _, under_eInts 0 _, trivial⟩
  · exact under_eInts 0 _
  · refine CallG.pure _ (c_from hv hs hc hL) ?_
    refine ⟨.inl rfl, FinG.mk _ rfl rfl ?_⟩
    exact freeze_eInts _ _


set_option maxRecDepth 100000 in
theorem c_cuePlays (b : Book) (version : Int) (cues : List Int) (H : List Blk) : ACall Tryz.prog 23 [eBook b, n' version, eInts cues] H (.ret (.lit (.bool true))) H := by
  refine fn_rule (m := false) (fn := Tryz.f23) (c := (Tryz.f23.body).getD .skip) mixed (by kernel_rfl) (by kernel_rfl) (of_decide_eq_true (by kernel_rfl)) ?_ ?_ ?_ H
  · exact ⟨under_eBook 0 _, trivial, under_eInts 0 _, trivial⟩
  · trivial
  · refine CallG.bool (c_short _) (fun h => ?_) (fun h => ?_)
    · refine If.mk (fun h1 => ?_) (fun h1 => ?_)
      · refine IfB.mk (fun _ => ?_) (fun e => by cases e)
        refine CallG.pure _ (known_call) ?_
        exact ⟨.inl rfl, FinG.mk _ rfl rfl rfl⟩
      · refine IfB.mk (fun e => by cases e) (fun _ => ?_)
        have hl : cues.length < 4611686018427387904 := by omega
        by_cases hB : BOk b
        · refine CallG.pure _ (c_check_ok h.len hB) ?_
          by_cases hP : inI version 0 (b.vs.length - 1) ∧ LList b cues
          · obtain ⟨h2, h3⟩ := hP
            have h2' := h2
            unfold inI at h2'
            have hi : version.toNat < b.vs.length := by omega
            obtain ⟨v, hv⟩ : ∃ v, b.vs[version.toNat]? = some v := ⟨_, List.getElem?_eq_getElem hi⟩
            obtain ⟨hvo, h0⟩ := (hB.2 v (List.mem_of_getElem? hv)).vers
            have h0c := hB.1.1.1
            obtain ⟨hc1, hc2⟩ := h3.cues (by omega)
            refine CallG.pure _ (c_plays_ok h.len hB h2.1 hv h3) ?_
            refine CallG.bool (c_book h.len) (fun _ => ?_) (fun x => absurd hB x)
            refine IfB.mk (fun e => by cases e) (fun _ => ?_)
            refine CallG.bool (c_version hB.fit _) (fun _ => ?_) (fun x => absurd h2 x)
            refine CallG.bool (c_list hB.fit _ hl) (fun _ => ?_) (fun x => absurd h3 x)
            refine IfB.mk (fun e => by cases e) (fun _ => ?_)
            refine If.mk (fun _ => ?_) (fun h => absurd (by decide) h)
            refine If.mk (fun _ => ?_) (fun h => absurd (by decide) h)
            refine Ex.mk _ (jx_versions (r := version.toNat) (by omega) hv) ?_
            refine Ex.mk _ rfl ?_
            refine CallG.pure _ (c_refPlays hvo h0 hc1 hc2) ?_
            refine CallG.bool (c_same _ _ (by rw [plays_length]; omega)) (fun _ => ?_) (fun x => absurd rfl x)
            refine CallG.pure _ (known_call) ?_
            exact ⟨.inl rfl, FinG.mk _ rfl rfl rfl⟩
          · refine CallG.pure _ (c_plays_no h.len hl (fun x => hP x.2)) ?_
            refine CallG.bool (c_book h.len) (fun _ => ?_) (fun x => absurd hB x)
            refine IfB.mk (fun e => by cases e) (fun _ => ?_)
            refine CallG.bool (c_version hB.fit _) (fun h2 => ?_) (fun h2 => ?_)
            · refine CallG.bool (c_list hB.fit _ hl) (fun h3 => absurd ⟨h2, h3⟩ hP) (fun _ => ?_)
              refine IfB.mk (fun _ => ?_) (fun e => by cases e)
              refine If.mk (fun _ => ?_) (fun h => absurd (by decide) h)
              refine If.mk (fun _ => ?_) (fun h => absurd (by decide) h)
              refine If.mk (fun _ => ?_) (fun h => absurd (by decide) h)
              refine CallG.pure _ (known_call) ?_
              exact ⟨.inl rfl, FinG.mk _ rfl rfl rfl⟩
            · refine IfB.mk (fun _ => ?_) (fun e => by cases e)
              refine If.mk (fun _ => ?_) (fun h => absurd (by decide) h)
              refine If.mk (fun _ => ?_) (fun h => absurd (by decide) h)
              refine If.mk (fun _ => ?_) (fun h => absurd (by decide) h)
              refine CallG.pure _ (known_call) ?_
              exact ⟨.inl rfl, FinG.mk _ rfl rfl rfl⟩
        · refine CallG.pure _ (c_check_no h.len hB) ?_
          refine CallG.pure _ (c_plays_no h.len hl (fun x => hB x.1)) ?_
          refine CallG.bool (c_book h.len) (fun x => absurd x hB) (fun _ => ?_)
          refine IfB.mk (fun _ => ?_) (fun e => by cases e)
          refine If.mk (fun _ => ?_) (fun h => absurd (by decide) h)
          refine If.mk (fun _ => ?_) (fun h => absurd (by decide) h)
          refine If.mk (fun _ => ?_) (fun h => absurd (by decide) h)
          refine CallG.pure _ (known_call) ?_
          exact ⟨.inl rfl, FinG.mk _ rfl rfl rfl⟩
    · refine IfB.mk (fun _ => ?_) (fun e => by cases e)
      refine CallG.pure _ (known_call) ?_
      exact ⟨.inl rfl, FinG.mk _ rfl rfl rfl⟩
end Go.Vm
