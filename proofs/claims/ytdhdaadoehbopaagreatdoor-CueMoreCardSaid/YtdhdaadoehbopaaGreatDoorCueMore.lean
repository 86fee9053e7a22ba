/-
  The law CueMore of package kelirlaw04 returns true for every input, and each argument reads afterwards as it read before: the tied card. Conditions: what the row lists of package-level variables, tied to the text of the program.
-/
import Derived.Test.YtdhdaadoehbopaaGreatDoorDb
import Derived.Test.YtdhdaadoehbopaaGreatDoorCh
import Derived.Test.YtdhdaadoehbopaaGreatDoorCn
import Derived.Test.YtdhdaadoehbopaaGreatDoorCu
import Derived.Test.YtdhdaadoehbopaaGreatDoorCj
import Derived.Test.YtdhdaadoehbopaaGreatDoorVk
import Derived.Test.YtdhdaadoehbopaaGreatDoorVr
import Derived.Test.YtdhdaadoehbopaaGreatDoorRows
import Derived.Test.YtdhdaadoehbopaaGreatDoorTie
import Derived.Test.YtdhdaadoehbopaaGreatDoorCards
import Derived.SevenTiedAt

namespace Go.Vm
open Go.Proofs
theorem rem_len {vs : List Vers} {evs : List Evening} {e : Evening} : ∀ r, (remL vs (evs ++ [e]) r).length ≤ (remL vs evs r).length
 | 0 => Nat.le_refl _
 | r + 1 => by
  have ih := rem_len (vs := vs) (evs := evs) (e := e) r
  unfold remL
  by_cases h : Agrees (vs.getD r []) evs
  ·rw [if_pos h]
   split
   ·rw [List.length_append, List.length_append]; simp; omega
   ·rw [List.length_append]; omega
  ·rw [if_neg h, if_neg fun x => h (agrees_snoc.1 x).1]; exact ih
theorem rem_sub {vs : List Vers} {evs : List Evening} {e : Evening} {j : Int} {r : Nat} (h : j ∈ remL vs (evs ++ [e]) r) : j ∈ remL vs evs r := by
 obtain ⟨n, rfl⟩ : ∃ n : Nat, j = (n : Int) := ⟨j.toNat, by have := remL_mem h; omega⟩
 exact rem_less h
theorem more_sure {b : Book} (hB : BOk b) {evs : List Evening} {e : Evening} {cues : List Int} (hc : CuesOk b.cues.toNat cues) (hne : remL b.vs (evs ++ [e]) b.vs.length ≠ []) {k : Nat} (hk : k < cues.length) :
  ∃ s s', (sureL b cues (remL b.vs evs b.vs.length))[k]? = some s ∧ (sureL b cues (remL b.vs (evs ++ [e]) b.vs.length))[k]? = some s' ∧ (s ≠ -1 → s' = s) := by
 have hp : ∀ evs : List Evening, ∀ j ∈ remL b.vs evs b.vs.length, ∀ x ∈ plOf b cues j, 0 ≤ x := fun evs j hj x hx => by
  obtain ⟨w, hw, hpw, hwo, hw0⟩ := pl_at hB (cues := cues) (remL_mem hj)
  rw [hpw] at hx
  have hbc := hB.1.1
  unfold inI at hbc
  exact (plays_in (hB.2 w (List.mem_of_getElem? hw)) (by omega) hc hw0 x hx).1
 obtain ⟨n, hn⟩ := List.exists_mem_of_ne_nil _ hne
 obtain ⟨s, p, h1, h2, h3, h4⟩ := sure_law (rem_sub hn) hk (hp evs)
 obtain ⟨s', p', k1, k2, k3, k4⟩ := sure_law hn hk (hp (evs ++ [e]))
 refine ⟨s, s', h1, k1, fun hs => ?_⟩
 obtain rfl : p = p' := Option.some.inj (h2.symm.trans k2)
 rw [h3 hs]
 exact k3 (k4.1 fun j hj => h4.2 hs j (rem_sub hj))
theorem more_never {b : Book} {L L' : List Int} (h : ∀ j ∈ L', j ∈ L) {cues : List Int} {tune : Int} {x : Int} : ∀ {r : Nat}, x ∈ badL b L' cues tune r → x ∈ badL b L cues tune r
 | 0, hx => by cases hx
 | r + 1, hx => by
  unfold badL at hx ⊢
  by_cases h1 : Plays1 b L' cues tune r
  ·rw [if_pos h1] at hx
   rw [if_pos (show Plays1 b L cues tune r from h1.imp fun n hn => ⟨h n hn.1, hn.2⟩)]
   rcases List.mem_append.1 hx with hx | hx
   ·exact List.mem_append_left _ (more_never h hx)
   ·exact List.mem_append_right _ hx
  ·rw [if_neg h1] at hx
   split
   ·exact List.mem_append_left _ (more_never h hx)
   ·exact more_never h hx
theorem more_join {vs : List Vers} {K : Nat} (hv : ∀ v ∈ vs, VersOk v K) (hv0 : ∀ v ∈ vs, 0 < v.length) (hn : vs.length ≤ 4) {evs : List Evening} {e : Evening} {l : List Nat} {o : Option (List Nat)} (hF : Found (nextJ vs) (doneJ vs K) (jRun vs (remL vs evs vs.length) []) K (some l))
  (hF' : Found (nextJ vs) (doneJ vs K) (jRun vs (remL vs (evs ++ [e]) vs.length) []) K o) : ∃ l', o = some l' ∧ l'.length ≤ l.length := by
 obtain ⟨hl, hd, _⟩ := hF.yes l rfl
 rw [jRun_pos hv hv0 ⟨fun _ h => remL_mem h, Nat.le_trans (remL_length _ _ _) hn⟩ l hl] at hd
 have hd' := joined_less (fun n hn => rem_less (e := e) hn) hd
 rw [← jRun_pos hv hv0 ⟨fun _ h => remL_mem h, Nat.le_trans (remL_length _ _ _) hn⟩ l hl] at hd'
 cases o with
 | none => exact absurd hd' (hF'.no rfl l hl)
 | some l' =>
  refine ⟨l', rfl, ?_⟩
  rcases (hF'.yes l' rfl).2.2 l hl hd' with (h | h) | h
  ·omega
  ·omega
  ·rw [h]; exact Nat.le_refl _
def aF : Option (Option (Nat × Nat)) → Int
 | none => 0
 | some none => -1
 | some (some p) => p.1
def aC : Option (Option (Nat × Nat)) → Nat
 | some (some p) => p.2
 | _ => 0
def aE : Option (Option (Nat × Nat)) → Int
 | none => 5
 | some _ => 0
theorem askP_eq (o : Option (Option (Nat × Nat))) : askP o = .tup [n' (aF o), n' (aC o), n' (aE o)] := by
 rcases o with _ | _ | ⟨c, n⟩ <;> rfl
theorem more_ask {vs : List Vers} {K T : Nat} {p q : P4} (h : Sub4 q p) {o o' : Option (Option (Nat × Nat))} (hA : AskR vs K T p o) (hA' : AskR vs K T q o') (he : aE o = 0) : aE o' = 0 ∧ aC o' ≤ aC o := by
 have key : ∀ n, win (base4 vs K) (succ4 vs T) K n p → aE o' = 0 ∧ aC o' ≤ n := fun n hw => by
  have hw' := win_less h hw
  cases hA' with
  | done h => exact ⟨rfl, Nat.zero_le _⟩
  | best hq => exact ⟨rfl, hq.val.2 _ hw'⟩
  | none hno => exact absurd hw' (hno n)
 cases hA with
 | done h => exact key 0 (Val.zero.2 h).1
 | best hq => exact key _ hq.val.1
 | none hno => cases he
end Go.Vm

namespace Go.Vm
open Go.Proofs
set_option maxRecDepth 100000 in
theorem ap_evNil0 {g : Nat → Option Blk} {n : Nat} {l : List Evening} (h : l = []) : appT Tryz.prog false g n 40 40 (.lit (.slice none 0 0)) (eEvenings l) = some (.lit (.slice none 0 0), .same) := by
 subst h
 unfold appT
 simp only [show tslice Tryz.prog 40 = some 51 by kernel_rfl, show tsz Tryz.prog 51 = some 2 by kernel_rfl, show tz Tryz.prog 51 = some (.agg #[.slice none 0 0, .slice none 0 0]) by kernel_rfl, show tbytes Tryz.prog 51 = some 48 by kernel_rfl]
 rfl
theorem wk_evs0 {l : List Evening} {e : Evening} {tl : Tail} (h : l = []) (H : List Blk) : WeakH H (.sl 1 (cEvening e) tl) (eEvenings (l ++ [e])) := by subst h; exact wk_evs (l := []) H
theorem wkS_evs {t : Trie Blk} {l : List Evening} {e : Evening} {tl : Tail} : Weak t (.sl (l.length + 1) (l.flatMap cEvening ++ cEvening e) tl) (eEvenings (l ++ [e])) := by
 have h : eEvenings (l ++ [e]) = .sl (l.length + 1) (l.flatMap cEvening ++ cEvening e) .unk := by
  unfold eEvenings
  rw [List.length_append, List.flatMap_append, List.flatMap_cons, List.flatMap_nil, List.append_nil]; rfl
 exact h ▸ Weak.tail _ _ _ _
theorem wkS_evs0 {t : Trie Blk} {l : List Evening} {e : Evening} {tl : Tail} (h : l = []) : Weak t (.sl 1 (cEvening e) tl) (eEvenings (l ++ [e])) := by subst h; exact wkS_evs (l := [])
set_option maxHeartbeats 16000000 in
set_option maxRecDepth 100000 in
theorem c_cueMore (b : Book) (evs : List Evening) (more : Evening) (cues : List Int) (tune : Int) (H : List Blk) : ACall Tryz.prog 22 [eBook b, eEvenings evs, eEvening more, eInts cues, n' tune] H (.ret (.lit (.bool true))) H := by
 refine fn_rule (m := false) (fn := Tryz.f22) (c := (Tryz.f22.body).getD .skip) mixed (by kernel_rfl) (by kernel_rfl) (of_decide_eq_true (by kernel_rfl)) ?_ ?_ ?_ H
 ·exact ⟨under_eBook 0 _, under_eEvenings 0 _, under_eEvening 0 _, under_eInts 0 _, trivial, trivial⟩
 ·trivial
 ·refine CallG.bool (c_right _ _) (fun hr => ?_) (fun _ => ?_)
  ·refine CallG.bool (c_slim _) (fun hsl => ?_) (fun _ => ?_)
   ·obtain ⟨⟨⟨hsh, hbr⟩, hB⟩, hE⟩ := hr
    have hn1 : more.1.length < 4611686018427387904 := by unfold Slim at hsl; omega
    have hn2 : more.2.length < 4611686018427387904 := by unfold Slim at hsl; omega
    refine CallG.bool (c_evening hB.fit _ hn1 hn2) (fun hN => ?_) (fun _ => ?_)
    ·refine If.mk (fun h4 => ?_) (fun h4 => ?_)
     ·refine ifY ?_
      refine CallG.pure _ (known_call) ?_
      exact ⟨.inl rfl, FinG.mk _ rfl rfl rfl⟩
     ·refine If.mk (fun h10 => ?_) (fun h10 => ?_)
      ·refine ifY ?_
       refine CallG.pure _ (known_call) ?_
       exact ⟨.inl rfl, FinG.mk _ rfl rfl rfl⟩
      ·refine CallG.bool (c_list hB.fit _ (by omega)) (fun hC => ?_) (fun _ => ?_)
       ·refine CallG.bool (c_tune hB.fit _) (fun hT => ?_) (fun _ => ?_)
        ·refine ifN ?_
         have G := hB.game
         have hbc := hB.1.1
         have hbv := hB.1.2.2
         unfold inI at hbc hbv
         have hE' : EvsOk b (evs ++ [more]) := ⟨fun e he => by
          rcases List.mem_append.1 he with he | he
          ·exact hE.1 e he
          ·rw [List.mem_singleton] at he; subst he; exact hN, by rw [List.length_append]; simp; omega⟩
         have h0 : EvOk b ([], []) := ⟨⟨⟨by simp, fun c h => by cases h⟩, ⟨fun c h => (by cases h), (by simp)⟩⟩, rfl⟩
         have hRl := remL_length b.vs evs b.vs.length
         have hRl' := rem_len (vs := b.vs) (evs := evs) (e := more) b.vs.length
         rcases Classical.em (evs = []) with hen | hen
         case' inl => refine ex_app _ _ (ap_evNil0 hen) ?_
         case' inl => refine ex_app _ _ (ap_ev1 (g := fun _ => none)) ?_
         case' inr => refine ex_app _ _ (ap_evNil hen (by omega)) ?_
         case' inr => refine ex_app _ _ (app_evening (flat2_length (fun _ => rfl) _) (by omega) rfl) ?_
         all_goals
          refine CallG.pure _ (c_Remains_ok hsh.len hB hE) ?_
          refine CallG.weak _ (.cons (fun H => WeakH.refl _ H) (.cons (fun H => by first | exact wk_evs H | exact wk_evs0 hen H) .nil)) (c_Remains_ok hsh.len hB hE') ?_
          refine If.mk (fun _ => ?_) (fun h => absurd (by decide) h)
          refine If.mk (fun _ => ?_) (fun h => absurd (by decide) h)
          refine If.mk (fun h => absurd h (by have : (remL b.vs evs b.vs.length).length ≤ b.vs.length := hRl; omega)) (fun _ => ?_)
          refine If.mk (fun h => absurd h (by omega)) (fun _ => ?_)
          refine ifN ?_
          refine LoopG.at (n0 := 9) rfl (loop_up mixed (m := false) (fun k => [(1, eEvenings evs), (3, eInts cues), (4, n' tune), (5, .ptr 0 0), (7, .ptr 1 0), (11, eEvenings (evs ++ [more])), (12, eInts (remL b.vs evs b.vs.length)), (14, eInts (remL b.vs (evs ++ [more]) b.vs.length)), (16, n' k)]) (fun _ => [(0, bBox b), (1, .box (cEvening more) 51)]) (fun _ => True) (remL b.vs (evs ++ [more]) b.vs.length).length 8 (leb rfl) trivial ?_ ?_ ?_)
          ·exact ⟨⟨_, rfl, Weak.refl _ _, under_eEvenings _ _⟩, ⟨_, rfl, Weak.refl _ _, under_eInts _ _⟩, wp rfl trivial, wp rfl (ltb rfl), wp rfl (ltb rfl), ⟨_, rfl, by first | exact wkS_evs | exact wkS_evs0 hen, under_eEvenings _ _⟩, ⟨_, rfl, Weak.refl _ _, under_eInts _ _⟩, ⟨_, rfl, Weak.refl _ _, under_eInts _ _⟩, wp rfl trivial, trivial⟩
          ·exact ⟨bk rfl rfl, bk rfl rfl, trivial⟩
          ·intro k hk _
           refine If.mk (fun hk2 => ?_) (fun hk2 => ?_)
           ·refine ifY ?_
            have hk3 : k < (remL b.vs (evs ++ [more]) b.vs.length).length := by omega
            obtain ⟨x, hx⟩ : ∃ x, (remL b.vs (evs ++ [more]) b.vs.length)[k]? = some x := ⟨_, List.getElem?_eq_getElem hk3⟩
            refine Ex.mk _ (jx_ints (r := k) rfl hx) ?_
            refine Ex.mk _ rfl ?_
            refine CallG.bool (c_listed _ _ (by omega)) (fun _ => ?_) (fun y => absurd (rem_sub (List.mem_of_getElem? hx)) y)
            refine ifN ?_
            refine Side.mk (fits64 (by omega)) ?_
            refine ⟨leb rfl, rfl, by omega, trivial, ⟨⟨_, rfl, Weak.refl _ _, under_eEvenings _ _⟩, ⟨_, rfl, Weak.refl _ _, under_eInts _ _⟩, wp rfl trivial, wp rfl (ltb rfl), wp rfl (ltb rfl), ⟨_, rfl, Weak.refl _ _, under_eEvenings _ _⟩, ⟨_, rfl, Weak.refl _ _, under_eInts _ _⟩, ⟨_, rfl, Weak.refl _ _, under_eInts _ _⟩, wp rfl trivial, trivial⟩, ⟨bk rfl rfl, bk rfl rfl, trivial⟩, trivial⟩
           ·refine ifN ?_
            refine ⟨leb rfl, ?_⟩
            refine If.mk (fun hm0 => ?_) (fun hm0 => ?_)
            ·refine ifY ?_
             refine CallG.pure _ (known_call) ?_
             exact ⟨.inl rfl, FinG.mk _ rfl rfl rfl⟩
            ·have hne' : remL b.vs (evs ++ [more]) b.vs.length ≠ [] := fun e => hm0 (by rw [e]; rfl)
             have hne : remL b.vs evs b.vs.length ≠ [] := fun e => by
              obtain ⟨x, hx⟩ := List.exists_mem_of_ne_nil _ hne'
              have := rem_sub hx
              rw [e] at this
              cases this
             have hcc := (hC.cues (by omega)).1
             have hsu := fun k hk => more_sure (k := k) hB hcc hne' hk
             have hnv := fun x r hx => more_never (b := b) (L := remL b.vs evs b.vs.length) (L' := remL b.vs (evs ++ [more]) b.vs.length) (fun j hj => rem_sub hj) (cues := []) (tune := tune) (x := x) (r := r) hx
             obtain ⟨o, hA, ha⟩ := c_Ask hsh.len hB hE h0 (by rw [remL_now]; exact hne) (l := []) (fun x hx => by cases hx) rfl
             obtain ⟨o', hA', ha'⟩ := c_Ask hsh.len hB hE' h0 (by rw [remL_now]; exact hne') (l := []) (fun x hx => by cases hx) rfl
             obtain ⟨oj, hJ, hj⟩ := c_Join hsh.len hB hE hne
             obtain ⟨oj', hJ', hj'⟩ := c_Join hsh.len hB hE' hne'
             have hS := fun H => c_sure_ok hsh.len hB hE hC (by rw [remL_now]; exact hne) H
             have hS' := fun H => c_sure_ok hsh.len hB hE' hC (by rw [remL_now]; exact hne') H
             have hN1 := fun H => c_Never hsh.len hB hE h0 hT (by rw [remL_now]; exact hne) H
             have hN2 := fun H => c_Never hsh.len hB hE' h0 hT (by rw [remL_now]; exact hne') H
             simp only [remL_now, askP_eq] at hA hA' ha ha' hS hS' hN1 hN2
             have hmo := more_ask (st_less fun n hn => rem_less (e := more) hn) hA hA'
             have hsl1 : (sureL b cues (remL b.vs evs b.vs.length)).length = cues.length := by
              cases hx : remL b.vs evs b.vs.length with
              | nil => exact absurd hx hne
              | cons i R => exact sureL_length
             have hsl2 : (sureL b cues (remL b.vs (evs ++ [more]) b.vs.length)).length = cues.length := by
              cases hx : remL b.vs (evs ++ [more]) b.vs.length with
              | nil => exact absurd hx hne'
              | cons i R => exact sureL_length
             have hb1 := badL_length b (remL b.vs evs b.vs.length) [] tune b.cues.toNat
             have hb2 := badL_length b (remL b.vs (evs ++ [more]) b.vs.length) [] tune b.cues.toNat
             have hmj := fun l o hF hF' => more_join (evs := evs) (e := more) G.hv G.hv0 G.hn (l := l) (o := o) hF hF'
             generalize remL b.vs evs b.vs.length = R at *
             generalize remL b.vs (evs ++ [more]) b.vs.length = R' at *
             refine ifN ?_
             refine CallG.pure _ (hS) ?_
             refine CallG.pure _ (hS') ?_
             refine CallG.weak _ (.cons (fun H => WeakH.refl _ H) (.cons (fun H => WeakH.refl _ H) (.cons wk_ev0 .nil))) ha ?_
             refine CallG.weak _ (.cons (fun H => WeakH.refl _ H) (.cons (fun H => WeakH.refl _ H) (.cons wk_ev0 .nil))) ha' ?_
             refine CallG.weak _ (.cons (fun H => WeakH.refl _ H) (.cons (fun H => WeakH.refl _ H) (.cons wk_ev0 (.cons (fun H => WeakH.refl _ H) .nil)))) hN1 ?_
             refine CallG.weak _ (.cons (fun H => WeakH.refl _ H) (.cons (fun H => WeakH.refl _ H) (.cons wk_ev0 (.cons (fun H => WeakH.refl _ H) .nil)))) hN2 ?_
             have hcut : oj = none ∨ ∃ l l', oj = some l ∧ oj' = some l' ∧ l'.length ≤ l.length := by
              rcases oj with _ | l
              ·exact .inl rfl
              ·obtain ⟨l', h1, h2⟩ := hmj _ _ hJ hJ'
               exact .inr ⟨l, l', rfl, h1, h2⟩
             rcases hcut with rfl | ⟨lj, lj', rfl, rfl, hle⟩
             case' inl => rcases oj' with _ | lj'
             all_goals
              refine CallG.pure _ (hj) ?_
              refine CallG.pure _ (hj') ?_
              refine If.mk (fun _ => ?_) (fun h => absurd (by decide) h)
              refine If.mk (fun _ => ?_) (fun h => absurd (by decide) h)
              refine If.mk (fun _ => ?_) (fun h => absurd (by decide) h)
              refine If.mk (fun _ => ?_) (fun h => absurd (by decide) h)
              refine If.mk (fun _ => ?_) (fun h => absurd (by omega) h)
              refine If.mk (fun _ => ?_) (fun h => absurd (by omega) h)
              refine If.mk (fun h => absurd h (by omega)) (fun _ => ?_)
              refine If.mk (fun he => ?_) (fun he => ?_)
              case' refine_1 => refine If.mk (fun _ => ?_) (fun h => absurd (hmo he).1 h)
              case' refine_1 => refine If.mk (fun h => absurd h (by have := (hmo he).2; omega)) (fun _ => ?_)
              all_goals
               first
                |skip
                 refine If.mk (fun h => absurd h (by decide)) (fun _ => ?_)
                |skip
                 refine If.mk (fun _ => ?_) (fun h => absurd (by decide) h)
                 refine If.mk (fun _ => ?_) (fun h => absurd (by decide) h)
                 refine If.mk (fun h => absurd h (by rw [cuesI_length, cuesI_length]; omega)) (fun _ => ?_)
               refine ifN ?_
               refine LoopG.at (n0 := 9) rfl (loop_up mixed (m := false) (fun k => [(3, eInts cues), (17, eInts (sureL b cues R)), (19, eInts (sureL b cues R')), (27, eInts (badL b R [] tune b.cues.toNat)), (29, eInts (badL b R' [] tune b.cues.toNat)), (35, n' k)]) (fun _ => []) (fun _ => True) cues.length 8 (leb rfl) trivial ?_ ?_ ?_)
               ·exact ⟨⟨_, rfl, Weak.refl _ _, under_eInts _ _⟩, ⟨_, rfl, Weak.refl _ _, under_eInts _ _⟩, ⟨_, rfl, Weak.refl _ _, under_eInts _ _⟩, ⟨_, rfl, Weak.refl _ _, under_eInts _ _⟩, ⟨_, rfl, Weak.refl _ _, under_eInts _ _⟩, wp rfl trivial, trivial⟩
               ·trivial
               ·intro k hk _
                refine If.mk (fun hk2 => ?_) (fun hk2 => ?_)
                ·refine ifY ?_
                 obtain ⟨x, y, hx, hy, hxy⟩ := hsu k (by omega)
                 refine Ex.mk _ (jx_ints (r := k) rfl hx) ?_
                 refine Ex.mk _ rfl ?_
                 refine If.mk (fun hx1 => ?_) (fun hx1 => ?_)
                 ·refine ifN ?_
                  refine Side.mk (fits64 (by omega)) ?_
                  refine ⟨leb rfl, rfl, by omega, trivial, ⟨⟨_, rfl, Weak.refl _ _, under_eInts _ _⟩, ⟨_, rfl, Weak.refl _ _, under_eInts _ _⟩, ⟨_, rfl, Weak.refl _ _, under_eInts _ _⟩, ⟨_, rfl, Weak.refl _ _, under_eInts _ _⟩, ⟨_, rfl, Weak.refl _ _, under_eInts _ _⟩, wp rfl trivial, trivial⟩, trivial, trivial⟩
                 ·refine Ex.mk _ (jx_ints (r := k) rfl hy) ?_
                  refine Ex.mk _ rfl ?_
                  refine Ex.mk _ (jx_ints (r := k) rfl hx) ?_
                  refine Ex.mk _ rfl ?_
                  refine If.mk (fun _ => ?_) (fun h => absurd (hxy hx1) h)
                  refine ifN ?_
                  refine Side.mk (fits64 (by omega)) ?_
                  refine ⟨leb rfl, rfl, by omega, trivial, ⟨⟨_, rfl, Weak.refl _ _, under_eInts _ _⟩, ⟨_, rfl, Weak.refl _ _, under_eInts _ _⟩, ⟨_, rfl, Weak.refl _ _, under_eInts _ _⟩, ⟨_, rfl, Weak.refl _ _, under_eInts _ _⟩, ⟨_, rfl, Weak.refl _ _, under_eInts _ _⟩, wp rfl trivial, trivial⟩, trivial, trivial⟩
                ·refine ifN ?_
                 refine ⟨leb rfl, ?_⟩
                 refine LoopG.at (n0 := 9) rfl (loop_up mixed (m := false) (fun k => [(27, eInts (badL b R [] tune b.cues.toNat)), (29, eInts (badL b R' [] tune b.cues.toNat)), (36, n' k)]) (fun _ => []) (fun _ => True) (badL b R' [] tune b.cues.toNat).length 8 (leb rfl) trivial ?_ ?_ ?_)
                 ·exact ⟨⟨_, rfl, Weak.refl _ _, under_eInts _ _⟩, ⟨_, rfl, Weak.refl _ _, under_eInts _ _⟩, wp rfl trivial, trivial⟩
                 ·trivial
                 ·intro k hk _
                  refine If.mk (fun hk2 => ?_) (fun hk2 => ?_)
                  ·refine ifY ?_
                   obtain ⟨x, hx⟩ : ∃ x, (badL b R' [] tune b.cues.toNat)[k]? = some x := ⟨_, List.getElem?_eq_getElem (by omega)⟩
                   refine Ex.mk _ (jx_ints (r := k) rfl hx) ?_
                   refine Ex.mk _ rfl ?_
                   refine CallG.bool (c_listed _ _ (by omega)) (fun _ => ?_) (fun y => absurd (hnv _ _ (List.mem_of_getElem? hx)) y)
                   refine ifN ?_
                   refine Side.mk (fits64 (by omega)) ?_
                   refine ⟨leb rfl, rfl, by omega, trivial, ⟨⟨_, rfl, Weak.refl _ _, under_eInts _ _⟩, ⟨_, rfl, Weak.refl _ _, under_eInts _ _⟩, wp rfl trivial, trivial⟩, trivial, trivial⟩
                  ·refine ifN ?_
                   refine ⟨leb rfl, ?_⟩
                   refine CallG.pure _ (known_call) ?_
                   exact ⟨.inl rfl, FinG.mk _ rfl rfl rfl⟩
        ·refine ifY ?_
         refine CallG.pure _ (known_call) ?_
         exact ⟨.inl rfl, FinG.mk _ rfl rfl rfl⟩
       ·refine ifY ?_
        refine CallG.pure _ (known_call) ?_
        exact ⟨.inl rfl, FinG.mk _ rfl rfl rfl⟩
    ·refine ifY ?_
     refine CallG.pure _ (known_call) ?_
     exact ⟨.inl rfl, FinG.mk _ rfl rfl rfl⟩
   ·refine ifY ?_
    refine CallG.pure _ (known_call) ?_
    exact ⟨.inl rfl, FinG.mk _ rfl rfl rfl⟩
  ·refine ifY ?_
   refine CallG.pure _ (known_call) ?_
   exact ⟨.inl rfl, FinG.mk _ rfl rfl rfl⟩
end Go.Vm

namespace Go.Proofs.YtdhdaadoehbopaaGreatDoor
open Go.Vm Go.ChangeShapes Go.WideShapes Go.ChangeAt Go.RowKit
set_option maxHeartbeats 8000000 in
set_option maxRecDepth 100000 in
theorem cueMore_lifted (os : Os) (started : os.Started) (H : Type) (enc : TypeId × Value → H) :
  ReturnsInHanded {} Tryz.checked os 22 .any (fun w args => (Rows.cueMoreSpec.pre enc Tryz.prog Tryz.f22 Rows.cueMoreRow.domain false w args ∧ laidMetH Tryz.prog Rows.cueMoreRow.laid w) ∧ sizedMet enc Tryz.prog Tryz.f22 (OpenSpec.ofChange Rows.cueMoreSpec) false w args)
   (Rows.cueMoreSpec.post enc Tryz.prog Tryz.f22 false true false false) := by
 refine returnsInHanded_of_change_and (C := Tryz.checked) (X := fun w _ => laidMetH Tryz.prog Rows.cueMoreRow.laid w) (fun _ _ _ hh h => h.of_heap hh) own started (by kernel_rfl) Tryz.func22
  (ChangeSpec.witness_shaped (enc := enc) (C := Tryz.checked) (os := os) (X := fun w _ => laidMetH Tryz.prog Rows.cueMoreRow.laid w) false (World.laidAll Tryz.prog os Rows.cueMoreRow.laid) #[.agg #[.int .i64 0, .int .i64 0, .slice none 0 0], .slice none 0 0, .agg #[.slice none 0 0, .slice none 0 0], .slice none 0 0, .int .i64 0] 8 (World.laidAll_os _ _ _)
   (World.shaped_of_ZipB (by kernel_rfl) (by kernel_rfl)) (by kernel_rfl) (by kernel_rfl) (by kernel_rfl)
   (by rw [MakeChecks.laidMetH_plain _ _ _ (by kernel_rfl)]; exact laidMet_laidAll _ (by kernel_rfl) (by kernel_rfl))) ?_
 intro W base args ds gs before hval0 hW _ _ _ _
 have hval : ∀ (j : Nat) t v, Tryz.f22.params[j]? = some t → args[j]? = some v → Value.okWide Tryz.prog W .any base t v := hval0
 have hW' := hW
 obtain ⟨p, q, hA0, hV, rfl, _, _⟩ := hW
 have hA : DataW.TrodAll enc Tryz.prog W 0 (fun _ => true) true Tryz.f22.params.toList args.toList ds p := hA0
 rw [Tryz.params22] at hA hval
 obtain ⟨v0, v1, v2, v3, v4, d0, d1, d2, d3, d4, p0, p1, p2, p3, p4, rfl, rfl, rfl, h0, h1, h2, h3, h4⟩ := trodAll_five hA
 obtain ⟨rfl, rfl⟩ := trodVars_none hV
 obtain ⟨x0, r0, _⟩ := arg_book (hval 0 24 v0 rfl rfl) h0
 obtain ⟨x1, r1, _⟩ := arg_evenings (hval 1 40 v1 rfl rfl) h1
 obtain ⟨x2, r2, _⟩ := arg_evening (hval 2 51 v2 rfl rfl) h2
 obtain ⟨x3, r3, _⟩ := arg_ints (hval 3 25 v3 rfl rfl) h3
 obtain ⟨x4, r4, _⟩ := arg_int (hval 4 3 v4 rfl rfl) h4
 refine (law_calls (c_cueMore x0 x1 x2 x3 x4) (by simp only [VRels, and_true]; exact ⟨r0, r1, r2, r3, r4⟩)).mono ?_
 rintro e W' ⟨rfl, hk⟩
 exact ⟨_, rfl, law_post laidOut (by kernel_rfl) (by kernel_rfl) (by kernel_rfl) hW' rfl rfl hk⟩
theorem cueMore_named : Tryz.pinned.checked.prog.funcNamed Rows.cueMoreRow.func = some 22 := by kernel_rfl
theorem cueMore_inst : Tryz.f22.isInstance Tryz.pinned.checked.prog Rows.cueMoreRow.origin Rows.cueMoreRow.targs := of_decide_eq_true (by kernel_rfl)
theorem cueMore_wrap : Tryz.f22.isWrapper Tryz.pinned.checked.prog Rows.cueMoreRow.wrapper Rows.cueMoreRow.mainSum := by unfold Func.isWrapper; first | (rw [if_pos (by decide +kernel)]; kernel_rfl) | (rw [if_neg (by decide +kernel)]; exact ⟨rfl, rfl⟩)
set_option maxHeartbeats 8000000 in
theorem cueMore_closed : joinedFacts Tryz.pinned.checked.prog 22 Tryz.f22 Rows.cueMoreSpec Rows.cueMoreRow = true := by
 unfold joinedFacts
 refine and_t (and_t (and_t (and_t (and_t (and_t (and_t (and_t (and_t (and_t (and_t (and_t (and_t (and_t (and_t (and_t (and_t (and_t (and_t (and_t (and_t (and_t (and_t (and_t (and_t (and_t (and_t (and_t (and_t (and_t (and_t ?_ ?_) ?_) ?_) ?_) ?_) ?_) ?_) ?_) ?_) ?_) ?_) ?_) ?_) ?_) ?_) ?_) ?_) ?_) ?_) ?_) ?_) ?_) ?_) ?_) ?_) ?_) ?_) ?_) ?_) ?_) ?_
 ·as_aux_lemma => kernel_rfl
 ·as_aux_lemma => kernel_rfl
 ·as_aux_lemma => kernel_rfl
 ·as_aux_lemma => kernel_rfl
 ·as_aux_lemma => kernel_rfl
 ·as_aux_lemma => kernel_rfl
 ·as_aux_lemma => kernel_rfl
 ·as_aux_lemma => kernel_rfl
 ·as_aux_lemma => kernel_rfl
 ·as_aux_lemma => kernel_rfl
 ·as_aux_lemma => kernel_rfl
 ·as_aux_lemma => kernel_rfl
 ·as_aux_lemma => kernel_rfl
 ·as_aux_lemma => kernel_rfl
 ·as_aux_lemma => kernel_rfl
 ·as_aux_lemma => kernel_rfl
 ·as_aux_lemma => kernel_rfl
 ·as_aux_lemma => kernel_rfl
 ·as_aux_lemma => kernel_rfl
 ·as_aux_lemma => kernel_rfl
 ·as_aux_lemma => kernel_rfl
 ·as_aux_lemma => kernel_rfl
 ·as_aux_lemma => kernel_rfl
 ·as_aux_lemma => kernel_rfl
 ·as_aux_lemma => kernel_rfl
 ·as_aux_lemma => kernel_rfl
 ·as_aux_lemma => kernel_rfl
 ·as_aux_lemma => kernel_rfl
 ·as_aux_lemma => kernel_rfl
 ·as_aux_lemma => kernel_rfl
 ·as_aux_lemma => kernel_rfl
 ·as_aux_lemma => kernel_rfl
theorem cueMore_holds : Rows.CueMoreSaid :=
 OpenClaim.holds_of_wide 22 Tryz.f22 rfl rfl rfl rfl rfl rfl rfl ⟨rfl, rfl, rfl, rfl, rfl⟩ rfl rfl rfl rfl rfl cueMore_named Tryz.func22 cueMore_closed cueMore_inst cueMore_wrap
  (fun os started H enc _ => cueMore_lifted os started H enc)
set_option maxHeartbeats 8000000 in
theorem cueMore_card : Rows.CueMoreCardSaid :=
 Claim7.holds_tied_plain_at .later [] [.data, .data, .data, .data, .pinned] true (true, "d200c2f9484011b2fecf6d987098eee6f4d6857560912b686a09e1298a9b974d") true cueMore_holds (fun _ h => by cases h) (by as_aux_lemma => kernel_rfl) (fun _ h => by cases h) cueMore_row_tie rfl ⟨rfl, rfl⟩ (by as_aux_lemma => kernel_rfl) rfl
  (fun f fn hf hfn => by
   obtain rfl : f = 22 := Option.some.inj (cueMore_named.symm.trans hf) |>.symm
   obtain rfl : fn = Tryz.f22 := (Option.some.inj (Tryz.func22.symm.trans hfn)).symm
   exact ⟨by as_aux_lemma => kernel_rfl, fun j t ht => by
    rw [Tryz.params22] at ht
    have hm : t ∈ [24, 40, 51, 25, 3] := by simpa using Array.mem_of_getElem? ht
    have hall : ([24, 40, 51, 25, 3].all fun u => !Tryz.prog.wantsStandIn u) = true := by kernel_rfl
    exact (show Tryz.prog.wantsStandIn t = false by simpa using List.all_eq_true.1 hall t hm)⟩)
  (by as_aux_lemma => kernel_rfl)
end Go.Proofs.YtdhdaadoehbopaaGreatDoor
