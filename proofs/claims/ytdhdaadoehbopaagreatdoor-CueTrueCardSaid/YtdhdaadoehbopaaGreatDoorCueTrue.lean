/-
  The law CueTrue of package kelirlaw04 returns true for every input, and each argument reads afterwards as it read before: the tied card. Conditions: what the row lists of package-level variables, tied to the text of the program.
-/
import Derived.Test.YtdhdaadoehbopaaGreatDoorCb
import Derived.Test.YtdhdaadoehbopaaGreatDoorVk
import Derived.Test.YtdhdaadoehbopaaGreatDoorVr
import Derived.Test.YtdhdaadoehbopaaGreatDoorRows
import Derived.Test.YtdhdaadoehbopaaGreatDoorTie
import Derived.Test.YtdhdaadoehbopaaGreatDoorCards
import Derived.SevenTiedAt

/-
  CueTrue: its walk. (Own work.)
-/
namespace Go.Vm
open Go.Proofs


abbrev evE (v : Vers) (noted : List Bool) (all : List (List Int)) (r : Nat) : List Evening := evsOf v noted 0 (all.take r)

set_option maxHeartbeats 16000000 in
set_option maxRecDepth 100000 in
theorem c_cueTrue (b : Book) (version : Int) (all : List (List Int)) (noted : List Bool) (cues : List Int) (H : List Blk) :
    ACall Tryz.prog 5 [eBook b, n' version, eLists all, eBools noted, eInts cues] H (.ret (.lit (.bool true))) H := by
  refine fn_rule (m := false) (fn := Tryz.f5) (c := (Tryz.f5.body).getD .skip) mixed (by kernel_rfl) (by kernel_rfl) (of_decide_eq_true (by kernel_rfl)) ?_ ?_ ?_ H
  · exact ⟨under_eBook 0 _, trivial, under_eLists 0 _, under_eBools 0 _, under_eInts 0 _, trivial⟩
  · trivial
  · refine CallG.bool (c_short _) (fun hsh => ?_) (fun _ => ?_)
    · refine CallG.bool (c_book hsh.len) (fun hB => ?_) (fun _ => ?_)
      · refine CallG.bool (c_version hB.fit _) (fun h2 => ?_) (fun _ => ?_)
        · refine If.mk (fun h3 => ?_) (fun h3 => ?_)
          · refine IfB.mk (fun _ => ?_) (fun e => by cases e)
            refine CallG.pure _ (known_call) ?_
            exact ⟨.inl rfl, FinG.mk _ rfl rfl rfl⟩
          · refine If.mk (fun h4 => ?_) (fun h4 => ?_)
            · refine IfB.mk (fun _ => ?_) (fun e => by cases e)
              refine CallG.pure _ (known_call) ?_
              exact ⟨.inl rfl, FinG.mk _ rfl rfl rfl⟩
            · refine If.mk (fun h5 => ?_) (fun h5 => ?_)
              · refine IfB.mk (fun _ => ?_) (fun e => by cases e)
                refine CallG.pure _ (known_call) ?_
                exact ⟨.inl rfl, FinG.mk _ rfl rfl rfl⟩
              · refine CallG.bool (c_list hB.fit _ (by omega)) (fun hC => ?_) (fun _ => ?_)
                · refine IfB.mk (fun e => by cases e) (fun _ => ?_)
                  unfold inI at h2
                  have hi : version.toNat < b.vs.length := by omega
                  obtain ⟨v, hv⟩ : ∃ v, b.vs[version.toNat]? = some v := ⟨_, List.getElem?_eq_getElem hi⟩
                  have hVO := hB.2 v (List.mem_of_getElem? hv)
                  obtain ⟨hvo, h0⟩ := hVO.vers
                  have h0c := hB.1.1.1
                  obtain ⟨hc1, hc2⟩ := hC.cues (by omega)
                  refine LoopG.ghost (LoopG.at (n0 := 2) rfl ?_)
                  refine loop_up mixed (m := false) (fun r => [(1, n' version), (2, eLists all), (3, eBools noted), (4, eInts cues), (5, .ptr 0 0), (11, .sl r ((evE v noted all r).flatMap cEvening) (.own 1 r 2)), (12, n' (sumL (all.take r) : Nat)), (13, n' r)])
                    (fun r => [(0, bBox b), (1, .row r)]) (fun r => (∀ c ∈ all.take r, LList b c) ∧ sumL (all.take r) ≤ 8 * r) all.length 1 (leb rfl) ⟨fun c h => by simp at h, by simp [sumL]⟩ ?_ ?_ ?_
                  · exact ⟨⟨_, rfl, Weak.refl _ _, trivial⟩, ⟨_, rfl, Weak.refl _ _, under_eLists _ _⟩, ⟨_, rfl, Weak.refl _ _, under_eBools _ _⟩, ⟨_, rfl, Weak.refl _ _, under_eInts _ _⟩, ⟨_, rfl, Weak.refl _ _, ltb rfl⟩, ⟨_, rfl, Weak.own (r := 1) (g := 0) 2 rfl, ⟨trivial, ltb rfl⟩⟩, ⟨_, rfl, Weak.refl _ _, trivial⟩, ⟨_, rfl, Weak.refl _ _, trivial⟩, trivial⟩
                  · exact ⟨⟨rfl, ltb rfl⟩, ⟨rfl, ltb rfl⟩, trivial⟩
                  · intro r hr hI
                    obtain ⟨hI, hI2⟩ := hI
                    refine If.mk (fun g1 => ?_) (fun g1 => ?_)
                    · refine IfB.mk (fun _ => ?_) (fun e => by cases e)
                      obtain ⟨c, hcr1, hcr2, hcr3⟩ := at_some (l := all) (r := r) (by omega)
                      refine Ex.mk _ (jx_lists (r := r) rfl hcr1) ?_
                      refine Ex.mk _ rfl ?_
                      refine If.mk (fun g2 => ?_) (fun g2 => ?_)
                      · refine IfB.mk (fun _ => ?_) (fun e => by cases e)
                        refine CallG.pure _ known_call ?_
                        exact ⟨leb rfl, .inl rfl, FinG.mk _ rfl rfl rfl⟩
                      · refine Ex.mk _ (jx_lists (r := r) rfl hcr1) ?_
                        refine Ex.mk _ rfl ?_
                        refine CallG.bool (c_list hB.fit _ (by omega)) (fun g3 => ?_) (fun _ => ?_)
                        · refine IfB.mk (fun e => by cases e) (fun _ => ?_)
                          obtain ⟨hcc1, hcc2⟩ := g3.cues (by omega)
                          have hcl := g3.1
                          refine Ex.mk _ (jx_lists (r := r) rfl hcr1) ?_
                          refine Ex.mk _ rfl ?_
                          refine CallG.pure _ (c_plays_ok hsh.len hB h2.1 hv g3) ?_
                          refine If.mk (fun _ => ?_) (fun h => absurd (by decide) h)
                          refine Ex.mk _ (jx_lists (r := r) rfl hcr1) ?_
                          refine Ex.mk _ rfl ?_
                          refine If.mk (fun _ => ?_) (fun h => absurd (by rw [plays_length]) h)
                          refine IfB.mk (fun e => by cases e) (fun _ => ?_)
                          have hpl : (plays v 0 c).length = c.length := plays_length _ _ _
                          have htl : ∀ q, ((tn noted (sumL (all.take r)) (plays v 0 c)).take q).length = min q c.length := fun q => by rw [List.length_take, tn_length, hpl]
                          refine LoopG.ghost (LoopG.at (n0 := 30) rfl (LoopG.after ?_))
                          refine loop_up mixed (m := false) (fun q => [(1, n' version), (2, eLists all), (3, eBools noted), (4, eInts cues), (5, .ptr 0 0), (11, .sl r ((evE v noted all r).flatMap cEvening) (.own 1 r 2)), (12, n' (sumL (all.take r) + q : Nat)), (13, n' r), (14, eInts (plays v 0 c)), (16, .sl q (((tn noted (sumL (all.take r)) (plays v 0 c)).take q).map n') (.own 29 q 1)), (17, n' q)])
                            (fun q => [(0, bBox b), (1, .row r), (29, .row q)]) (fun _ => True) c.length 29 (leb rfl) trivial ?_ ?_ ?_
                          · exact ⟨⟨_, rfl, Weak.refl _ _, trivial⟩, ⟨_, rfl, Weak.refl _ _, under_eLists _ _⟩, ⟨_, rfl, Weak.refl _ _, under_eBools _ _⟩, ⟨_, rfl, Weak.refl _ _, under_eInts _ _⟩, ⟨_, rfl, Weak.refl _ _, ltb rfl⟩, ⟨_, rfl, Weak.refl _ _, ⟨unders_evenings _ _, ltb rfl⟩⟩, ⟨_, rfl, Weak.refl _ _, trivial⟩, ⟨_, rfl, Weak.refl _ _, trivial⟩, ⟨_, rfl, Weak.refl _ _, under_eInts _ _⟩, ⟨_, rfl, Weak.own (r := 29) (g := 0) 1 rfl, ⟨trivial, ltb rfl⟩⟩, ⟨_, rfl, Weak.refl _ _, trivial⟩, trivial⟩
                          · exact ⟨⟨rfl, ltb rfl⟩, ⟨rfl, ltb rfl⟩, ⟨rfl, ltb rfl⟩, trivial⟩
                          · intro q hq _
                            refine If.mk (fun g4 => ?_) (fun g4 => ?_)
                            · refine IfB.mk (fun _ => ?_) (fun e => by cases e)
                              have g4' : (q : Int) < ((plays v 0 c).length : Nat) := g4
                              obtain ⟨x, hx, _, _⟩ := at_some (l := plays v 0 c) (r := q) (by omega)
                              have hta := tn_at noted _ (sumL (all.take r)) q hx
                              have htk : (tn noted (sumL (all.take r)) (plays v 0 c)).take (q + 1) = (tn noted (sumL (all.take r)) (plays v 0 c)).take q ++ [if noted.getD (sumL (all.take r) + q) false = true then x else -1] := by
                                obtain ⟨hlt, heq⟩ := List.getElem?_eq_some_iff.1 hta
                                rw [take_snoc hlt, heq]
                              refine If.mk (fun g5 => ?_) (fun g5 => ?_)
                              · obtain ⟨y, hy, _, _⟩ := at_some (l := noted) (r := sumL (all.take r) + q) (by omega)
                                have hyd : noted.getD (sumL (all.take r) + q) false = y := getD_of hy
                                refine Ex.mk _ (jx_bools (r := sumL (all.take r) + q) rfl hy) ?_
                                refine Ex.mk _ rfl ?_
                                refine IfB.mk (fun g6 => ?_) (fun g6 => ?_)
                                · refine Ex.mk _ (jx_ints (r := q) rfl hx) ?_
                                  refine Ex.mk _ rfl ?_
                                  refine ex_app _ _ (app_int (by rw [List.length_map, htl]; omega) (by omega) rfl) ?_
                                  refine Side.mk (fits64 (by omega)) ?_
                                  refine Side.mk (fits64 (by omega)) ?_
                                  refine ⟨leb rfl, rfl, by omega, trivial, ⟨⟨_, rfl, Weak.refl _ _, trivial⟩, ⟨_, rfl, Weak.refl _ _, under_eLists _ _⟩, ⟨_, rfl, Weak.refl _ _, under_eBools _ _⟩, ⟨_, rfl, Weak.refl _ _, under_eInts _ _⟩, ⟨_, rfl, Weak.refl _ _, ltb rfl⟩, ⟨_, rfl, Weak.refl _ _, ⟨unders_evenings _ _, ltb rfl⟩⟩, ⟨_, rfl, Weak.refl _ _, trivial⟩, ⟨_, rfl, Weak.refl _ _, trivial⟩, ⟨_, rfl, Weak.refl _ _, under_eInts _ _⟩, ⟨_, rfl, Weak.of_eq (?_), ⟨under_ints _ _, ltb rfl⟩⟩, ⟨_, rfl, Weak.refl _ _, trivial⟩, trivial⟩, ⟨⟨rfl, ltb rfl⟩, ⟨rfl, ltb rfl⟩, ⟨rfl, ltb rfl⟩, trivial⟩, ⟨_, rfl, trivial⟩, trivial⟩
                                  rw [htk, if_pos (by rw [hyd, g6]), List.map_append]
                                  rfl
                                · refine ex_app _ _ (app_int (by rw [List.length_map, htl]; omega) (by omega) rfl) ?_
                                  refine Side.mk (fits64 (by omega)) ?_
                                  refine Side.mk (fits64 (by omega)) ?_
                                  refine ⟨leb rfl, rfl, by omega, trivial, ⟨⟨_, rfl, Weak.refl _ _, trivial⟩, ⟨_, rfl, Weak.refl _ _, under_eLists _ _⟩, ⟨_, rfl, Weak.refl _ _, under_eBools _ _⟩, ⟨_, rfl, Weak.refl _ _, under_eInts _ _⟩, ⟨_, rfl, Weak.refl _ _, ltb rfl⟩, ⟨_, rfl, Weak.refl _ _, ⟨unders_evenings _ _, ltb rfl⟩⟩, ⟨_, rfl, Weak.refl _ _, trivial⟩, ⟨_, rfl, Weak.refl _ _, trivial⟩, ⟨_, rfl, Weak.refl _ _, under_eInts _ _⟩, ⟨_, rfl, Weak.of_eq (?_), ⟨under_ints _ _, ltb rfl⟩⟩, ⟨_, rfl, Weak.refl _ _, trivial⟩, trivial⟩, ⟨⟨rfl, ltb rfl⟩, ⟨rfl, ltb rfl⟩, ⟨rfl, ltb rfl⟩, trivial⟩, ⟨_, rfl, trivial⟩, trivial⟩
                                  rw [htk, if_neg (by rw [hyd, g6]; simp), List.map_append]
                                  rfl
                              · refine IfB.mk (fun e => by cases e) (fun _ => ?_)
                                have hyd : noted.getD (sumL (all.take r) + q) false = false := by
                                  rw [List.getD, List.getElem?_eq_none (by omega)]; rfl
                                refine ex_app _ _ (app_int (by rw [List.length_map, htl]; omega) (by omega) rfl) ?_
                                refine Side.mk (fits64 (by omega)) ?_
                                refine Side.mk (fits64 (by omega)) ?_
                                refine ⟨leb rfl, rfl, by omega, trivial, ⟨⟨_, rfl, Weak.refl _ _, trivial⟩, ⟨_, rfl, Weak.refl _ _, under_eLists _ _⟩, ⟨_, rfl, Weak.refl _ _, under_eBools _ _⟩, ⟨_, rfl, Weak.refl _ _, under_eInts _ _⟩, ⟨_, rfl, Weak.refl _ _, ltb rfl⟩, ⟨_, rfl, Weak.refl _ _, ⟨unders_evenings _ _, ltb rfl⟩⟩, ⟨_, rfl, Weak.refl _ _, trivial⟩, ⟨_, rfl, Weak.refl _ _, trivial⟩, ⟨_, rfl, Weak.refl _ _, under_eInts _ _⟩, ⟨_, rfl, Weak.of_eq (?_), ⟨under_ints _ _, ltb rfl⟩⟩, ⟨_, rfl, Weak.refl _ _, trivial⟩, trivial⟩, ⟨⟨rfl, ltb rfl⟩, ⟨rfl, ltb rfl⟩, ⟨rfl, ltb rfl⟩, trivial⟩, ⟨_, rfl, trivial⟩, trivial⟩
                                rw [htk, if_neg (by rw [hyd]; simp), List.map_append]
                                rfl
                            · refine IfB.mk (fun e => by cases e) (fun _ => ?_)
                              have g4' : ¬ ((q : Int) < ((plays v 0 c).length : Nat)) := g4
                              have hqe : q = c.length := by omega
                              subst hqe
                              refine ⟨leb rfl, .inr ⟨[(1, n' version), (2, eLists all), (3, eBools noted), (4, eInts cues), (5, .ptr 0 0), (11, .sl r ((evE v noted all r).flatMap cEvening) (.own 1 r 2)), (12, n' (sumL (all.take r) + c.length : Nat)), (13, n' r), (16, eInts (tn noted (sumL (all.take r)) (plays v 0 c)))], ⟨⟨_, rfl, Weak.refl _ _⟩, ⟨_, rfl, Weak.refl _ _⟩, ⟨_, rfl, Weak.refl _ _⟩, ⟨_, rfl, Weak.refl _ _⟩, ⟨_, rfl, Weak.refl _ _⟩, ⟨_, rfl, Weak.refl _ _⟩, ⟨_, rfl, Weak.refl _ _⟩, ⟨_, rfl, Weak.refl _ _⟩, ⟨_, rfl, ?_⟩, trivial⟩, ?_⟩⟩
                              · have hfull : (tn noted (sumL (all.take r)) (plays v 0 c)).take c.length = tn noted (sumL (all.take r)) (plays v 0 c) := List.take_of_length_le (by rw [tn_length, hpl]; exact Nat.le_refl _)
                                have hlen : c.length = (tn noted (sumL (all.take r)) (plays v 0 c)).length := by rw [tn_length, hpl]
                                show Weak _ (.sl c.length (((tn noted (sumL (all.take r)) (plays v 0 c)).take c.length).map n') (.own 29 c.length 1)) (eInts (tn noted (sumL (all.take r)) (plays v 0 c)))
                                rw [hfull]
                                show Weak _ (.sl c.length ((tn noted (sumL (all.take r)) (plays v 0 c)).map n') (.own 29 c.length 1)) (.sl (tn noted (sumL (all.take r)) (plays v 0 c)).length ((tn noted (sumL (all.take r)) (plays v 0 c)).map n') .unk)
                                rw [← hlen]
                                exact Weak.tail _ _ _ _
                              · refine Ex.mk _ (jx_lists (r := r) rfl hcr1) ?_
                                refine Ex.mk _ rfl ?_
                                have hel : (evE v noted all r).length = r := by rw [evsOf_length, List.length_take]; omega
                                refine ex_app _ _ (app_evening (e := (c, tn noted (sumL (all.take r)) (plays v 0 c))) (by rw [flat2_length (fun _ => rfl), hel]) (by omega) rfl) ?_
                                refine Side.mk (fits64 (by omega)) ?_
                                have hsum : sumL (all.take (r + 1)) = sumL (all.take r) + c.length := by rw [hcr2, sumL_snoc]
                                have hev : evE v noted all (r + 1) = evE v noted all r ++ [(c, tn noted (sumL (all.take r)) (plays v 0 c))] := by
                                  show evsOf v noted 0 (all.take (r + 1)) = _
                                  rw [hcr2, evsOf_snoc, Nat.zero_add]
                                refine ⟨leb rfl, rfl, by omega, ⟨fun d hd => ?_, by rw [hsum]; omega⟩, ⟨⟨_, rfl, Weak.refl _ _, trivial⟩, ⟨_, rfl, Weak.refl _ _, under_eLists _ _⟩, ⟨_, rfl, Weak.refl _ _, under_eBools _ _⟩, ⟨_, rfl, Weak.refl _ _, under_eInts _ _⟩, ⟨_, rfl, Weak.refl _ _, ltb rfl⟩, ⟨_, rfl, Weak.of_eq (?_), ⟨unders_evenings _ _, ltb rfl⟩⟩, ⟨_, rfl, Weak.of_eq (?_), trivial⟩, ⟨_, rfl, Weak.refl _ _, trivial⟩, trivial⟩, ⟨⟨rfl, ltb rfl⟩, ⟨rfl, ltb rfl⟩, trivial⟩, ⟨_, rfl, trivial⟩, trivial⟩
                                · rw [hcr2] at hd
                                  rcases List.mem_append.1 hd with hd | hd
                                  · exact hI d hd
                                  · rw [List.mem_singleton] at hd; subst hd; exact g3
                                · rw [hev, List.flatMap_append]
                                  rfl
                                · rw [hsum]
                        · refine IfB.mk (fun _ => ?_) (fun e => by cases e)
                          refine CallG.pure _ known_call ?_
                          exact ⟨leb rfl, .inl rfl, FinG.mk _ rfl rfl rfl⟩
                    · refine IfB.mk (fun e => by cases e) (fun _ => ?_)
                      refine ⟨leb rfl, ?_⟩
                      have er : r = all.length := by omega
                      subst er
                      have hall : all.take all.length = all := List.take_length
                      have hE1 : evE v noted all all.length = evsOf v noted 0 all := by show evsOf v noted 0 (all.take all.length) = _; rw [hall]
                      rw [hall] at hI
                      have hEl : (evsOf v noted 0 all).length = all.length := evsOf_length _ _ _ _
                      have hEok : EvsOk b (evsOf v noted 0 all) := ⟨evsOf_ok hVO hB hI, by rw [hEl]; omega⟩
                      have hwk : ∀ H, WeakH H (.sl all.length ((evE v noted all all.length).flatMap cEvening) (.own 1 all.length 2)) (eEvenings (evsOf v noted 0 all)) := fun H => by
                        rw [hE1]
                        unfold eEvenings
                        rw [hEl]
                        exact WeakH.tail _ _ _ H
                      have hver : version = ((version.toNat : Nat) : Int) := by omega
                      have hin : version ∈ remL b.vs (evsOf v noted 0 all) b.vs.length := by
                        rw [hver]
                        exact remL_has hv (evsOf_agrees v noted all 0) hi
                      have hne : remL b.vs (evsOf v noted 0 all ++ [([], [])]) b.vs.length ≠ [] := by
                        rw [remL_now]
                        intro e; rw [e] at hin; cases hin
                      have hsure : ∀ H, ACall Tryz.prog 38 [eBook b, eEvenings (evsOf v noted 0 all), eInts cues] H (.ret (.tup [eInts (sureL b cues (remL b.vs (evsOf v noted 0 all) b.vs.length)), .lit (.int .i64 0)])) H := fun H => by
                        have := c_sure_ok hsh.len hB hEok hC hne H
                        rwa [remL_now] at this
                      refine CallG.weak _ (.cons (fun H => WeakH.refl _ H) (.cons hwk .nil)) (c_Remains_ok hsh.len hB hEok) ?_
                      refine CallG.weak _ (.cons (fun H => WeakH.refl _ H) (.cons hwk (.cons (fun H => WeakH.refl _ H) .nil))) hsure ?_
                      refine CallG.pure _ (c_plays_ok hsh.len hB h2.1 hv hC) ?_
                      refine If.mk (fun _ => ?_) (fun h => absurd (by decide) h)
                      refine If.mk (fun _ => ?_) (fun h => absurd (by decide) h)
                      refine If.mk (fun _ => ?_) (fun h => absurd (by decide) h)
                      have hRl := remL_length b.vs (evsOf v noted 0 all) b.vs.length
                      have hmem : ∀ j ∈ remL b.vs (evsOf v noted 0 all) b.vs.length, 0 ≤ j ∧ j < b.vs.length := fun j hj => remL_mem hj
                      have hlaw := fun k (hk : k < cues.length) => sure_law (b := b) (cues := cues) hin hk (fun j hj x hx => by
                        obtain ⟨w, hw, hpw, hwo, hw0⟩ := pl_at hB (cues := cues) (hmem j hj)
                        rw [hpw] at hx
                        exact (plays_in (hB.2 w (List.mem_of_getElem? hw)) (by omega) hc1 hw0 x hx).1)
                      have hvl := remL_versL b (evsOf v noted 0 all)
                      generalize remL b.vs (evsOf v noted 0 all) b.vs.length = L at hin hRl hmem hlaw hvl ⊢
                      refine If.mk (fun h => absurd h (by omega)) (fun _ => ?_)
                      have hvn := hB.1.2.2
                      unfold inI at hvn
                      refine CallG.bool (c_versions hB.fit L (by omega)) (fun _ => ?_) (fun x => absurd hvl x)
                      refine CallG.bool (c_listed L version (by omega)) (fun _ => ?_) (fun x => absurd hin x)
                      have hsl : (sureL b cues L).length = cues.length := by
                        cases L with
                        | nil => cases hin
                        | cons i R => exact sureL_length
                      generalize sureL b cues L = SU at hlaw hsl ⊢
                      have hpv : plOf b cues version = plays v 0 cues := by
                        show plays (b.vs.getD version.toNat []) 0 cues = _
                        rw [getD_of hv]
                      rw [hpv] at hlaw
                      have hpll : (plays v 0 cues).length = cues.length := plays_length _ _ _
                      refine If.mk (fun _ => ?_) (fun h => absurd (by rw [hsl]) h)
                      refine If.mk (fun _ => ?_) (fun h => absurd (by rw [hpll]) h)
                      refine IfB.mk (fun e => by cases e) (fun _ => ?_)
                      refine LoopG.at (n0 := 2) rfl (loop_up mixed (m := false) (fun k => [(4, eInts cues), (5, .ptr 0 0), (19, eInts L), (21, eInts SU), (23, eInts (plays v 0 cues)), (25, n' k)]) (fun _ => [(0, bBox b)]) (fun _ => True) cues.length 1 (leb rfl) trivial ?_ ?_ ?_)
                      · exact ⟨⟨_, rfl, Weak.refl _ _, under_eInts _ _⟩, ⟨_, rfl, Weak.refl _ _, ltb rfl⟩, ⟨_, rfl, Weak.refl _ _, under_eInts _ _⟩, ⟨_, rfl, Weak.refl _ _, under_eInts _ _⟩, ⟨_, rfl, Weak.refl _ _, under_eInts _ _⟩, ⟨_, rfl, Weak.refl _ _, trivial⟩, trivial⟩
                      · exact ⟨⟨rfl, ltb rfl⟩, trivial⟩
                      · intro k hk _
                        refine If.mk (fun j1 => ?_) (fun j1 => ?_)
                        · refine IfB.mk (fun _ => ?_) (fun e => by cases e)
                          obtain ⟨s, p, hs, hp, hl1, hl2⟩ := hlaw k (by omega)
                          refine Ex.mk _ (jx_ints (r := k) rfl hs) ?_
                          refine Ex.mk _ rfl ?_
                          refine If.mk (fun j2 => ?_) (fun j2 => ?_)
                          · refine IfB.mk (fun e => by cases e) (fun _ => ?_)
                            refine loop_r (α := { q : Nat × Bool // q.1 ≤ L.length ∧ (q.2 = true ↔ ∀ j ∈ L.take q.1, (plOf b cues j).getD k 0 = p) }) mixed (m := false) (fun a => [(4, eInts cues), (5, .ptr 0 0), (19, eInts L), (21, eInts SU), (23, eInts (plays v 0 cues)), (25, n' k), (26, nb a.1.2), (27, n' a.1.1)]) (fun _ => [(0, bBox b)]) (fun a => L.length - a.1.1) 2 ⟨(0, true), Nat.zero_le _, ⟨fun _ j h => by simp at h, fun _ => rfl⟩⟩ (leb rfl) ?_ ?_ ?_
                            · exact ⟨⟨_, rfl, Weak.refl _ _, under_eInts _ _⟩, ⟨_, rfl, Weak.refl _ _, ltb rfl⟩, ⟨_, rfl, Weak.refl _ _, under_eInts _ _⟩, ⟨_, rfl, Weak.refl _ _, under_eInts _ _⟩, ⟨_, rfl, Weak.refl _ _, under_eInts _ _⟩, ⟨_, rfl, Weak.refl _ _, trivial⟩, ⟨_, rfl, Weak.refl _ _, trivial⟩, ⟨_, rfl, Weak.refl _ _, trivial⟩, trivial⟩
                            · exact ⟨⟨rfl, ltb rfl⟩, trivial⟩
                            · rintro ⟨⟨q, sm⟩, hq, hsm⟩
                              refine If.mk (fun j3 => ?_) (fun j3 => ?_)
                              · refine IfB.mk (fun _ => ?_) (fun e => by cases e)
                                have j3' : (q : Int) < (L.length : Nat) := j3
                                obtain ⟨j, hj1, hj2, hj3⟩ := at_some (l := L) (r := q) (by omega)
                                obtain ⟨w, hw, hpw, hwo, hw0⟩ := pl_at hB (cues := cues) (hmem j hj3)
                                have hpwl : (plays w 0 cues).length = cues.length := plays_length _ _ _
                                obtain ⟨x, hx, _, _⟩ := at_some (l := plays w 0 cues) (r := k) (by omega)
                                have hxd : (plOf b cues j).getD k 0 = x := by rw [hpw]; exact getD_of hx
                                refine Ex.mk _ (jx_ints (r := q) rfl hj1) ?_
                                refine Ex.mk _ rfl ?_
                                refine CallG.pure _ (c_plays_ok hsh.len hB (hmem j hj3).1 hw hC) ?_
                                refine If.mk (fun _ => ?_) (fun h => absurd (by decide) h)
                                refine If.mk (fun _ => ?_) (fun h => absurd (by rw [hpwl]) h)
                                refine IfB.mk (fun e => by cases e) (fun _ => ?_)
                                cases sm with
                                | true =>
                                  have hall := hsm.1 rfl
                                  refine Ex.mk _ (jx_ints (r := k) rfl hx) ?_
                                  refine Ex.mk _ rfl ?_
                                  refine Ex.mk _ (jx_ints (r := k) rfl hp) ?_
                                  refine Ex.mk _ rfl ?_
                                  refine If.mk (fun j4 => ?_) (fun j4 => ?_)
                                  · refine Side.mk (fits64 (by omega)) ?_
                                    refine ⟨leb rfl, rfl, ⟨(q + 1, true), (by show q + 1 ≤ L.length; omega), ⟨fun _ i hi => ?_, fun _ => rfl⟩⟩, (by show L.length - (q + 1) < L.length - q; omega), ⟨⟨_, rfl, Weak.refl _ _, under_eInts _ _⟩, ⟨_, rfl, Weak.refl _ _, ltb rfl⟩, ⟨_, rfl, Weak.refl _ _, under_eInts _ _⟩, ⟨_, rfl, Weak.refl _ _, under_eInts _ _⟩, ⟨_, rfl, Weak.refl _ _, under_eInts _ _⟩, ⟨_, rfl, Weak.refl _ _, trivial⟩, ⟨_, rfl, Weak.refl _ _, trivial⟩, ⟨_, rfl, Weak.refl _ _, trivial⟩, trivial⟩, ⟨⟨rfl, ltb rfl⟩, trivial⟩, trivial⟩
                                    rw [hj2] at hi
                                    rcases List.mem_append.1 hi with hi | hi
                                    · exact hall i hi
                                    · rw [List.mem_singleton] at hi; subst hi; rw [hxd]; exact j4
                                  · refine Side.mk (fits64 (by omega)) ?_
                                    refine ⟨leb rfl, rfl, ⟨(q + 1, false), (by show q + 1 ≤ L.length; omega), ⟨fun e => (by cases e), fun e => ?_⟩⟩, (by show L.length - (q + 1) < L.length - q; omega), ⟨⟨_, rfl, Weak.refl _ _, under_eInts _ _⟩, ⟨_, rfl, Weak.refl _ _, ltb rfl⟩, ⟨_, rfl, Weak.refl _ _, under_eInts _ _⟩, ⟨_, rfl, Weak.refl _ _, under_eInts _ _⟩, ⟨_, rfl, Weak.refl _ _, under_eInts _ _⟩, ⟨_, rfl, Weak.refl _ _, trivial⟩, ⟨_, rfl, Weak.refl _ _, trivial⟩, ⟨_, rfl, Weak.refl _ _, trivial⟩, trivial⟩, ⟨⟨rfl, ltb rfl⟩, trivial⟩, trivial⟩
                                    exact absurd (by rw [← hxd]; exact e j (by rw [hj2]; exact List.mem_append_right _ (List.mem_singleton.2 rfl))) j4
                                | false =>
                                  refine Side.mk (fits64 (by omega)) ?_
                                  refine ⟨leb rfl, rfl, ⟨(q + 1, false), (by show q + 1 ≤ L.length; omega), ⟨fun e => (by cases e), fun e => ?_⟩⟩, (by show L.length - (q + 1) < L.length - q; omega), ⟨⟨_, rfl, Weak.refl _ _, under_eInts _ _⟩, ⟨_, rfl, Weak.refl _ _, ltb rfl⟩, ⟨_, rfl, Weak.refl _ _, under_eInts _ _⟩, ⟨_, rfl, Weak.refl _ _, under_eInts _ _⟩, ⟨_, rfl, Weak.refl _ _, under_eInts _ _⟩, ⟨_, rfl, Weak.refl _ _, trivial⟩, ⟨_, rfl, Weak.refl _ _, trivial⟩, ⟨_, rfl, Weak.refl _ _, trivial⟩, trivial⟩, ⟨⟨rfl, ltb rfl⟩, trivial⟩, trivial⟩
                                  exact hsm.2 fun i hi => e i (by rw [hj2]; exact List.mem_append_left _ hi)
                              · refine IfB.mk (fun e => by cases e) (fun _ => ?_)
                                have j3' : ¬ ((q : Int) < (L.length : Nat)) := j3
                                refine ⟨leb rfl, ?_⟩
                                have htake : L.take q = L := List.take_of_length_le (by omega)
                                have hsm' : sm = true ↔ ∀ j ∈ L, (plOf b cues j).getD k 0 = p := by
                                  have := hsm
                                  simp only [htake] at this
                                  exact this
                                cases sm with
                                | true =>
                                  have hne1 := hl2.1 (hsm'.1 rfl)
                                  refine Ex.mk _ (jx_ints (r := k) rfl hs) ?_
                                  refine Ex.mk _ rfl ?_
                                  refine If.mk (fun e => absurd e hne1) (fun _ => ?_)
                                  refine IfB.mk (fun e => by cases e) (fun _ => ?_)
                                  refine Side.mk (fits64 (by omega)) ?_
                                  exact ⟨leb rfl, rfl, by omega, trivial, ⟨⟨_, rfl, Weak.refl _ _, under_eInts _ _⟩, ⟨_, rfl, Weak.refl _ _, ltb rfl⟩, ⟨_, rfl, Weak.refl _ _, under_eInts _ _⟩, ⟨_, rfl, Weak.refl _ _, under_eInts _ _⟩, ⟨_, rfl, Weak.refl _ _, under_eInts _ _⟩, ⟨_, rfl, Weak.refl _ _, trivial⟩, trivial⟩, ⟨⟨rfl, ltb rfl⟩, trivial⟩, trivial⟩
                                | false =>
                                  refine Ex.mk _ (jx_ints (r := k) rfl hs) ?_
                                  refine Ex.mk _ rfl ?_
                                  refine If.mk (fun _ => ?_) (fun e => absurd (hsm'.2 (hl2.2 e)) (fun x => by cases x))
                                  refine IfB.mk (fun e => by cases e) (fun _ => ?_)
                                  refine Side.mk (fits64 (by omega)) ?_
                                  exact ⟨leb rfl, rfl, by omega, trivial, ⟨⟨_, rfl, Weak.refl _ _, under_eInts _ _⟩, ⟨_, rfl, Weak.refl _ _, ltb rfl⟩, ⟨_, rfl, Weak.refl _ _, under_eInts _ _⟩, ⟨_, rfl, Weak.refl _ _, under_eInts _ _⟩, ⟨_, rfl, Weak.refl _ _, under_eInts _ _⟩, ⟨_, rfl, Weak.refl _ _, trivial⟩, trivial⟩, ⟨⟨rfl, ltb rfl⟩, trivial⟩, trivial⟩
                          · refine Ex.mk _ (jx_ints (r := k) rfl hs) ?_
                            refine Ex.mk _ rfl ?_
                            refine Ex.mk _ (jx_ints (r := k) rfl hp) ?_
                            refine Ex.mk _ rfl ?_
                            refine If.mk (fun _ => ?_) (fun e => absurd (hl1 j2) e)
                            refine IfB.mk (fun e => by cases e) (fun _ => ?_)
                            refine loop_r (α := { q : Nat × Bool // q.1 ≤ L.length ∧ (q.2 = true ↔ ∀ j ∈ L.take q.1, (plOf b cues j).getD k 0 = p) }) mixed (m := false) (fun a => [(4, eInts cues), (5, .ptr 0 0), (19, eInts L), (21, eInts SU), (23, eInts (plays v 0 cues)), (25, n' k), (26, nb a.1.2), (27, n' a.1.1)]) (fun _ => [(0, bBox b)]) (fun a => L.length - a.1.1) 2 ⟨(0, true), Nat.zero_le _, ⟨fun _ j h => by simp at h, fun _ => rfl⟩⟩ (leb rfl) ?_ ?_ ?_
                            · exact ⟨⟨_, rfl, Weak.refl _ _, under_eInts _ _⟩, ⟨_, rfl, Weak.refl _ _, ltb rfl⟩, ⟨_, rfl, Weak.refl _ _, under_eInts _ _⟩, ⟨_, rfl, Weak.refl _ _, under_eInts _ _⟩, ⟨_, rfl, Weak.refl _ _, under_eInts _ _⟩, ⟨_, rfl, Weak.refl _ _, trivial⟩, ⟨_, rfl, Weak.refl _ _, trivial⟩, ⟨_, rfl, Weak.refl _ _, trivial⟩, trivial⟩
                            · exact ⟨⟨rfl, ltb rfl⟩, trivial⟩
                            · rintro ⟨⟨q, sm⟩, hq, hsm⟩
                              refine If.mk (fun j3 => ?_) (fun j3 => ?_)
                              · refine IfB.mk (fun _ => ?_) (fun e => by cases e)
                                have j3' : (q : Int) < (L.length : Nat) := j3
                                obtain ⟨j, hj1, hj2, hj3⟩ := at_some (l := L) (r := q) (by omega)
                                obtain ⟨w, hw, hpw, hwo, hw0⟩ := pl_at hB (cues := cues) (hmem j hj3)
                                have hpwl : (plays w 0 cues).length = cues.length := plays_length _ _ _
                                obtain ⟨x, hx, _, _⟩ := at_some (l := plays w 0 cues) (r := k) (by omega)
                                have hxd : (plOf b cues j).getD k 0 = x := by rw [hpw]; exact getD_of hx
                                refine Ex.mk _ (jx_ints (r := q) rfl hj1) ?_
                                refine Ex.mk _ rfl ?_
                                refine CallG.pure _ (c_plays_ok hsh.len hB (hmem j hj3).1 hw hC) ?_
                                refine If.mk (fun _ => ?_) (fun h => absurd (by decide) h)
                                refine If.mk (fun _ => ?_) (fun h => absurd (by rw [hpwl]) h)
                                refine IfB.mk (fun e => by cases e) (fun _ => ?_)
                                cases sm with
                                | true =>
                                  have hall := hsm.1 rfl
                                  refine Ex.mk _ (jx_ints (r := k) rfl hx) ?_
                                  refine Ex.mk _ rfl ?_
                                  refine Ex.mk _ (jx_ints (r := k) rfl hp) ?_
                                  refine Ex.mk _ rfl ?_
                                  refine If.mk (fun j4 => ?_) (fun j4 => ?_)
                                  · refine Side.mk (fits64 (by omega)) ?_
                                    refine ⟨leb rfl, rfl, ⟨(q + 1, true), (by show q + 1 ≤ L.length; omega), ⟨fun _ i hi => ?_, fun _ => rfl⟩⟩, (by show L.length - (q + 1) < L.length - q; omega), ⟨⟨_, rfl, Weak.refl _ _, under_eInts _ _⟩, ⟨_, rfl, Weak.refl _ _, ltb rfl⟩, ⟨_, rfl, Weak.refl _ _, under_eInts _ _⟩, ⟨_, rfl, Weak.refl _ _, under_eInts _ _⟩, ⟨_, rfl, Weak.refl _ _, under_eInts _ _⟩, ⟨_, rfl, Weak.refl _ _, trivial⟩, ⟨_, rfl, Weak.refl _ _, trivial⟩, ⟨_, rfl, Weak.refl _ _, trivial⟩, trivial⟩, ⟨⟨rfl, ltb rfl⟩, trivial⟩, trivial⟩
                                    rw [hj2] at hi
                                    rcases List.mem_append.1 hi with hi | hi
                                    · exact hall i hi
                                    · rw [List.mem_singleton] at hi; subst hi; rw [hxd]; exact j4
                                  · refine Side.mk (fits64 (by omega)) ?_
                                    refine ⟨leb rfl, rfl, ⟨(q + 1, false), (by show q + 1 ≤ L.length; omega), ⟨fun e => (by cases e), fun e => ?_⟩⟩, (by show L.length - (q + 1) < L.length - q; omega), ⟨⟨_, rfl, Weak.refl _ _, under_eInts _ _⟩, ⟨_, rfl, Weak.refl _ _, ltb rfl⟩, ⟨_, rfl, Weak.refl _ _, under_eInts _ _⟩, ⟨_, rfl, Weak.refl _ _, under_eInts _ _⟩, ⟨_, rfl, Weak.refl _ _, under_eInts _ _⟩, ⟨_, rfl, Weak.refl _ _, trivial⟩, ⟨_, rfl, Weak.refl _ _, trivial⟩, ⟨_, rfl, Weak.refl _ _, trivial⟩, trivial⟩, ⟨⟨rfl, ltb rfl⟩, trivial⟩, trivial⟩
                                    exact absurd (by rw [← hxd]; exact e j (by rw [hj2]; exact List.mem_append_right _ (List.mem_singleton.2 rfl))) j4
                                | false =>
                                  refine Side.mk (fits64 (by omega)) ?_
                                  refine ⟨leb rfl, rfl, ⟨(q + 1, false), (by show q + 1 ≤ L.length; omega), ⟨fun e => (by cases e), fun e => ?_⟩⟩, (by show L.length - (q + 1) < L.length - q; omega), ⟨⟨_, rfl, Weak.refl _ _, under_eInts _ _⟩, ⟨_, rfl, Weak.refl _ _, ltb rfl⟩, ⟨_, rfl, Weak.refl _ _, under_eInts _ _⟩, ⟨_, rfl, Weak.refl _ _, under_eInts _ _⟩, ⟨_, rfl, Weak.refl _ _, under_eInts _ _⟩, ⟨_, rfl, Weak.refl _ _, trivial⟩, ⟨_, rfl, Weak.refl _ _, trivial⟩, ⟨_, rfl, Weak.refl _ _, trivial⟩, trivial⟩, ⟨⟨rfl, ltb rfl⟩, trivial⟩, trivial⟩
                                  exact hsm.2 fun i hi => e i (by rw [hj2]; exact List.mem_append_left _ hi)
                              · refine IfB.mk (fun e => by cases e) (fun _ => ?_)
                                have j3' : ¬ ((q : Int) < (L.length : Nat)) := j3
                                refine ⟨leb rfl, ?_⟩
                                have htake : L.take q = L := List.take_of_length_le (by omega)
                                have hsm' : sm = true ↔ ∀ j ∈ L, (plOf b cues j).getD k 0 = p := by
                                  have := hsm
                                  simp only [htake] at this
                                  exact this
                                cases sm with
                                | true =>
                                  have hne1 := hl2.1 (hsm'.1 rfl)
                                  refine Ex.mk _ (jx_ints (r := k) rfl hs) ?_
                                  refine Ex.mk _ rfl ?_
                                  refine If.mk (fun e => absurd e hne1) (fun _ => ?_)
                                  refine IfB.mk (fun e => by cases e) (fun _ => ?_)
                                  refine Side.mk (fits64 (by omega)) ?_
                                  exact ⟨leb rfl, rfl, by omega, trivial, ⟨⟨_, rfl, Weak.refl _ _, under_eInts _ _⟩, ⟨_, rfl, Weak.refl _ _, ltb rfl⟩, ⟨_, rfl, Weak.refl _ _, under_eInts _ _⟩, ⟨_, rfl, Weak.refl _ _, under_eInts _ _⟩, ⟨_, rfl, Weak.refl _ _, under_eInts _ _⟩, ⟨_, rfl, Weak.refl _ _, trivial⟩, trivial⟩, ⟨⟨rfl, ltb rfl⟩, trivial⟩, trivial⟩
                                | false =>
                                  refine Ex.mk _ (jx_ints (r := k) rfl hs) ?_
                                  refine Ex.mk _ rfl ?_
                                  refine If.mk (fun _ => ?_) (fun e => absurd (hsm'.2 (hl2.2 e)) (fun x => by cases x))
                                  refine IfB.mk (fun e => by cases e) (fun _ => ?_)
                                  refine Side.mk (fits64 (by omega)) ?_
                                  exact ⟨leb rfl, rfl, by omega, trivial, ⟨⟨_, rfl, Weak.refl _ _, under_eInts _ _⟩, ⟨_, rfl, Weak.refl _ _, ltb rfl⟩, ⟨_, rfl, Weak.refl _ _, under_eInts _ _⟩, ⟨_, rfl, Weak.refl _ _, under_eInts _ _⟩, ⟨_, rfl, Weak.refl _ _, under_eInts _ _⟩, ⟨_, rfl, Weak.refl _ _, trivial⟩, trivial⟩, ⟨⟨rfl, ltb rfl⟩, trivial⟩, trivial⟩
                        · refine IfB.mk (fun e => by cases e) (fun _ => ?_)
                          refine ⟨leb rfl, ?_⟩
                          refine CallG.pure _ (known_call) ?_
                          exact ⟨.inl rfl, FinG.mk _ rfl rfl rfl⟩
                · refine IfB.mk (fun _ => ?_) (fun e => by cases e)
                  refine CallG.pure _ (known_call) ?_
                  exact ⟨.inl rfl, FinG.mk _ rfl rfl rfl⟩
        · refine IfB.mk (fun _ => ?_) (fun e => by cases e)
          refine CallG.pure _ (known_call) ?_
          exact ⟨.inl rfl, FinG.mk _ rfl rfl rfl⟩
      · refine IfB.mk (fun _ => ?_) (fun e => by cases e)
        refine CallG.pure _ (known_call) ?_
        exact ⟨.inl rfl, FinG.mk _ rfl rfl rfl⟩
    · refine IfB.mk (fun _ => ?_) (fun e => by cases e)
      refine CallG.pure _ (known_call) ?_
      exact ⟨.inl rfl, FinG.mk _ rfl rfl rfl⟩
end Go.Vm

/-
  CueTrue: the row and its card. (Own work; printed by gen_law.py.)
-/

namespace Go.Proofs.YtdhdaadoehbopaaGreatDoor
open Go.Vm Go.ChangeShapes Go.WideShapes Go.ChangeAt Go.RowKit

set_option maxHeartbeats 8000000 in
set_option maxRecDepth 100000 in
theorem cueTrue_lifted (os : Os) (started : os.Started) (H : Type) (enc : TypeId × Value → H) :
    ReturnsInHanded {} Tryz.checked os 5 .any (fun w args => (Rows.cueTrueSpec.pre enc Tryz.prog Tryz.f5 Rows.cueTrueRow.domain false w args ∧ laidMetH Tryz.prog Rows.cueTrueRow.laid w) ∧ sizedMet enc Tryz.prog Tryz.f5 (OpenSpec.ofChange Rows.cueTrueSpec) false w args)
      (Rows.cueTrueSpec.post enc Tryz.prog Tryz.f5 false true false false) := by
  refine returnsInHanded_of_change_and (C := Tryz.checked) (X := fun w _ => laidMetH Tryz.prog Rows.cueTrueRow.laid w) (fun _ _ _ hh h => h.of_heap hh) own started (by kernel_rfl) Tryz.func5
    (ChangeSpec.witness_shaped (enc := enc) (C := Tryz.checked) (os := os) (X := fun w _ => laidMetH Tryz.prog Rows.cueTrueRow.laid w) false (World.laidAll Tryz.prog os Rows.cueTrueRow.laid) #[.agg #[.int .i64 0, .int .i64 0, .slice none 0 0], .int .i64 0, .slice none 0 0, .slice none 0 0, .slice none 0 0] 8 (World.laidAll_os _ _ _)
      (World.shaped_of_ZipB (by kernel_rfl) (by kernel_rfl)) (by kernel_rfl) (by kernel_rfl) (by kernel_rfl)
      (by rw [MakeChecks.laidMetH_plain _ _ _ (by kernel_rfl)]; exact laidMet_laidAll _ (by kernel_rfl) (by kernel_rfl))) ?_
  intro W base args ds gs before hval0 hW _ _ _ _
  have hval : ∀ (j : Nat) t v, Tryz.f5.params[j]? = some t → args[j]? = some v → Value.okWide Tryz.prog W .any base t v := hval0
  have hW' := hW
  obtain ⟨p, q, hA0, hV, rfl, _, _⟩ := hW
  have hA : DataW.TrodAll enc Tryz.prog W 0 (fun _ => true) true Tryz.f5.params.toList args.toList ds p := hA0
  rw [Tryz.params5] at hA hval
  obtain ⟨v0, v1, v2, v3, v4, d0, d1, d2, d3, d4, p0, p1, p2, p3, p4, rfl, rfl, rfl, h0, h1, h2, h3, h4⟩ := trodAll_five hA
  obtain ⟨rfl, rfl⟩ := trodVars_none hV
  obtain ⟨x0, r0, _⟩ := arg_book (hval 0 24 v0 rfl rfl) h0
  obtain ⟨x1, r1, _⟩ := arg_int (hval 1 3 v1 rfl rfl) h1
  obtain ⟨x2, r2, _⟩ := arg_lists (hval 2 48 v2 rfl rfl) h2
  obtain ⟨x3, r3, _⟩ := arg_bools (hval 3 49 v3 rfl rfl) h3
  obtain ⟨x4, r4, _⟩ := arg_ints (hval 4 25 v4 rfl rfl) h4
  refine (law_calls (c_cueTrue x0 x1 x2 x3 x4) (by simp only [VRels, and_true]; exact ⟨r0, r1, r2, r3, r4⟩)).mono ?_
  rintro e W' ⟨rfl, hk⟩
  exact ⟨_, rfl, law_post laidOut (by kernel_rfl) (by kernel_rfl) (by kernel_rfl) hW' rfl rfl hk⟩

theorem cueTrue_named : Tryz.pinned.checked.prog.funcNamed Rows.cueTrueRow.func = some 5 := by kernel_rfl
theorem cueTrue_inst : Tryz.f5.isInstance Tryz.pinned.checked.prog Rows.cueTrueRow.origin Rows.cueTrueRow.targs := of_decide_eq_true (by kernel_rfl)
theorem cueTrue_wrap : Tryz.f5.isWrapper Tryz.pinned.checked.prog Rows.cueTrueRow.wrapper Rows.cueTrueRow.mainSum := by unfold Func.isWrapper; first | (rw [if_pos (by decide +kernel)]; kernel_rfl) | (rw [if_neg (by decide +kernel)]; exact ⟨rfl, rfl⟩)
set_option maxHeartbeats 8000000 in
theorem cueTrue_closed : joinedFacts Tryz.pinned.checked.prog 5 Tryz.f5 Rows.cueTrueSpec Rows.cueTrueRow = true := by
  unfold joinedFacts
  refine and_t (and_t (and_t (and_t (and_t (and_t (and_t (and_t (and_t (and_t (and_t (and_t (and_t (and_t (and_t (and_t (and_t (and_t (and_t (and_t (and_t (and_t (and_t (and_t (and_t (and_t (and_t (and_t (and_t (and_t (and_t ?_ ?_) ?_) ?_) ?_) ?_) ?_) ?_) ?_) ?_) ?_) ?_) ?_) ?_) ?_) ?_) ?_) ?_) ?_) ?_) ?_) ?_) ?_) ?_) ?_) ?_) ?_) ?_) ?_) ?_) ?_) ?_
  · as_aux_lemma => kernel_rfl
  · as_aux_lemma => kernel_rfl
  · as_aux_lemma => kernel_rfl
  · as_aux_lemma => kernel_rfl
  · as_aux_lemma => kernel_rfl
  · as_aux_lemma => kernel_rfl
  · as_aux_lemma => kernel_rfl
  · as_aux_lemma => kernel_rfl
  · as_aux_lemma => kernel_rfl
  · as_aux_lemma => kernel_rfl
  · as_aux_lemma => kernel_rfl
  · as_aux_lemma => kernel_rfl
  · as_aux_lemma => kernel_rfl
  · as_aux_lemma => kernel_rfl
  · as_aux_lemma => kernel_rfl
  · as_aux_lemma => kernel_rfl
  · as_aux_lemma => kernel_rfl
  · as_aux_lemma => kernel_rfl
  · as_aux_lemma => kernel_rfl
  · as_aux_lemma => kernel_rfl
  · as_aux_lemma => kernel_rfl
  · as_aux_lemma => kernel_rfl
  · as_aux_lemma => kernel_rfl
  · as_aux_lemma => kernel_rfl
  · as_aux_lemma => kernel_rfl
  · as_aux_lemma => kernel_rfl
  · as_aux_lemma => kernel_rfl
  · as_aux_lemma => kernel_rfl
  · as_aux_lemma => kernel_rfl
  · as_aux_lemma => kernel_rfl
  · as_aux_lemma => kernel_rfl
  · as_aux_lemma => kernel_rfl

theorem cueTrue_holds : Rows.CueTrueSaid :=
  OpenClaim.holds_of_wide 5 Tryz.f5 rfl rfl rfl rfl rfl rfl rfl ⟨rfl, rfl, rfl, rfl, rfl⟩ rfl rfl rfl rfl rfl cueTrue_named Tryz.func5 cueTrue_closed cueTrue_inst cueTrue_wrap
    (fun os started H enc _ => cueTrue_lifted os started H enc)

set_option maxHeartbeats 8000000 in
theorem cueTrue_card : Rows.CueTrueCardSaid :=
  Claim7.holds_tied_plain_at .later [] [.data, .data, .data, .data, .pinned] true (true, "d200c2f9484011b2fecf6d987098eee6f4d6857560912b686a09e1298a9b974d") true cueTrue_holds (fun _ h => by cases h) (by as_aux_lemma => kernel_rfl) (fun _ h => by cases h) cueTrue_row_tie rfl ⟨rfl, rfl⟩ (by as_aux_lemma => kernel_rfl) rfl
    (fun f fn hf hfn => by
      obtain rfl : f = 5 := Option.some.inj (cueTrue_named.symm.trans hf) |>.symm
      obtain rfl : fn = Tryz.f5 := (Option.some.inj (Tryz.func5.symm.trans hfn)).symm
      exact ⟨by as_aux_lemma => kernel_rfl, fun j t ht => by
        rw [Tryz.params5] at ht
        have hm : t ∈ [24, 3, 48, 49, 25] := by simpa using Array.mem_of_getElem? ht
        have hall : ([24, 3, 48, 49, 25].all fun u => !Tryz.prog.wantsStandIn u) = true := by kernel_rfl
        exact (show Tryz.prog.wantsStandIn t = false by simpa using List.all_eq_true.1 hall t hm)⟩)
    (by as_aux_lemma => kernel_rfl)
end Go.Proofs.YtdhdaadoehbopaaGreatDoor
