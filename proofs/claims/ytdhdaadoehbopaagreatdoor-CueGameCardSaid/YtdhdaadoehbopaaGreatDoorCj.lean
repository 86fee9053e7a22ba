/-
  Contracts of functions of packages kelirlaw04, kelirref04, kelirref02, cue and slices, for books, evenings and lists as told at each, in every heap. Conditions: at each theorem. (What remains, with the errors.)
-/
import Derived.Test.YtdhdaadoehbopaaGreatDoorCh
import Derived.Test.YtdhdaadoehbopaaGreatDoorVc

namespace Go.Vm
open Go.Proofs
def nilS2 (k : Int) : AV := .tup [.lit (.slice none 0 0), .lit (.int .i64 k)]
set_option maxRecDepth 100000 in
theorem c_left_none {b : Book} (hl : BLen b) (hB : BOk b) {evs : List Evening} (hE : EvsOk b evs) {now : Evening} (hN : EvOk b now) (hne : remL b.vs (evs ++ [now]) b.vs.length = []) (H : List Blk) :
  ACall Tryz.prog 99 [eBook b, .lit (.bool true), eEvenings evs, eEvening now] H (.ret (nilS2 7)) H := by
 have hel := hE.2
 obtain ⟨⟨⟨hn1, hn2⟩, ⟨hn3, hn4⟩⟩, hn5⟩ := hN
 refine fn_rule (m := false) (fn := Tryz.f99) (c := (Tryz.f99.body).getD .skip) mixed (by kernel_rfl) (by kernel_rfl) (of_decide_eq_true (by kernel_rfl)) ?_ ?_ ?_ H
 ·exact ⟨under_eBook 0 _, trivial, under_eEvenings 0 _, under_eEvening 0 _, trivial⟩
 ·exact under_tup2 trivial trivial
 ·refine CallG.bool (c_isBook hl) (fun _ => ?_) (fun x => absurd hB x)
  refine CallG.bool (c_areEvenings hB.fit _ (by omega) (fun e he => ?_)) (fun _ => ?_) (fun x => absurd hE x)
  ·obtain ⟨⟨⟨g1, _⟩, ⟨_, g2⟩⟩, _⟩ := hE.1 e he
   omega
  ·refine CallG.bool (c_isEvening hB.fit now (by omega) (by omega)) (fun _ => ?_) (fun x => absurd ⟨⟨⟨hn1, hn2⟩, ⟨hn3, hn4⟩⟩, hn5⟩ x)
   refine ifN ?_
   refine CallG.try rfl rfl ?_
   refine CallG.inlineP (m := false) (fn := Tryz.f158) (c := (Tryz.f158.body).getD .skip) mixed (by kernel_rfl) (by kernel_rfl) (of_decide_eq_true (by kernel_rfl)) ?_
   refine CallG.clone (by omega) (leb rfl) ?_
   refine ex_app _ _ (app_evening (flat2_length (fun _ => rfl) _) (by omega) rfl) ?_
   refine CallG.inlineP (m := false) (fn := Tryz.f159) (c := (Tryz.f159.body).getD .skip) mixed (by kernel_rfl) (by kernel_rfl) (of_decide_eq_true (by kernel_rfl)) ?_
   refine CallG.weak _ (.cons (fun H => WeakH.refl _ H) (.cons wk_evs .nil)) (c_remains hB (fun e he => ?_) (by rw [List.length_append]; simp; omega)) ?_
   ·rcases List.mem_append.1 he with he | he
    ·exact hE.1 e he
    ·rw [List.mem_singleton] at he; subst he; exact ⟨⟨⟨hn1, hn2⟩, ⟨hn3, hn4⟩⟩, hn5⟩
   ·rw [hne]
    refine If.mk (fun _ => ?_) (fun h => absurd (by decide) h)
    refine ifY ?_
    refine .inr ⟨_, rfl, rfl, ?_⟩
    refine .inr ⟨_, rfl, rfl, ?_⟩
    refine ⟨⟨_, rfl⟩, ⟨_, rfl⟩, ?_⟩
    refine If.mk (fun h => absurd h (by decide)) (fun _ => ?_)
    refine ifY ?_
    exact ⟨.inl rfl, FinG.mk _ rfl rfl rfl⟩
end Go.Vm
