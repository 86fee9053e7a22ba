/-
  The law CueGame of package kelirlaw04 returns true for every input, and each argument reads afterwards as it read before: the tied card. Conditions: what the row lists of package-level variables, tied to the text of the program.
-/
import Derived.Test.YtdhdaadoehbopaaGreatDoorDb
import Derived.Test.YtdhdaadoehbopaaGreatDoorDc
import Derived.Test.YtdhdaadoehbopaaGreatDoorCf
import Derived.Test.YtdhdaadoehbopaaGreatDoorCw
import Derived.Test.YtdhdaadoehbopaaGreatDoorVk
import Derived.Test.YtdhdaadoehbopaaGreatDoorVr
import Derived.Test.YtdhdaadoehbopaaGreatDoorRows
import Derived.Test.YtdhdaadoehbopaaGreatDoorTie
import Derived.Test.YtdhdaadoehbopaaGreatDoorCards
import Derived.SevenTiedAt

namespace Go.Vm
open Go.Proofs
section
variable {vs : List Vers} {K T : Nat} (G : GameOk vs K T) {p : P4} (hp : P4Ok vs p)
include G hp
theorem GameOk.gm_none (hno : ∀ n, ¬ win (base4 vs K) (succ4 vs T) K n p) {x : Nat} (hx : x < K) {s : Int × Bool} (h : WgOk vs K T (succ4 vs T p x) s) : s.2 = true ∧ s.1 = -1 := by
 have hnb : ¬ base4 vs K p := fun hb => hno 0 hb
 refine ⟨h.met.2 (G.ne' hp hnb hx), ?_⟩
 have hlow := h.low
 rcases Int.lt_or_le s.1 0 with h0 | h0
 ·omega
 ·exact absurd (fun y hy => (h.all h0 y hy).imp fun m hm => hm.1) (none_all hno hx)
theorem GameOk.gm_best {c n : Nat} (hb : BestQ vs K T p c n) {x : Nat} (hx : x < K) {s : Int × Bool} (h : WgOk vs K T (succ4 vs T p x) s) :
  s.2 = true ∧ -1 ≤ s.1 ∧ s.1 < 1000 ∧ (0 ≤ s.1 → (n : Int) ≤ s.1 + 1 ∧ ((x : Int) < c → (n : Int) < s.1 + 1)) ∧ ((x : Int) = c → s.1 + 1 = n) := by
 have hlow := h.low
 have h1 : 0 ≤ s.1 → (n : Int) ≤ s.1 + 1 ∧ ((x : Int) < c → (n : Int) < s.1 + 1) := fun h0 => by
  obtain ⟨a, b⟩ := G.best_le hp hb hx (j := s.1.toNat + 1) fun y hy => by
   obtain ⟨m, hV, hm⟩ := h.all h0 y hy
   exact ⟨m, hV, by omega⟩
  refine ⟨by omega, fun hxc => ?_⟩
  have := b (by omega)
  omega
 refine ⟨h.met.2 (G.ne' hp hb.nb hx), hlow, ?_, h1, fun hxc => ?_⟩
 ·rcases Int.lt_or_le 0 s.1 with h0 | h0
  ·obtain ⟨y, hy, hV⟩ := h.top h0
   have := G.val_lt (G.succ_ok hp hx hy) hV
   omega
  ·omega
 ·obtain rfl : x = c := by omega
  have h0 : 0 ≤ s.1 := by
   rcases Int.lt_or_le s.1 0 with h0 | h0
   ·exact absurd (fun y hy => (hb.good y hy).imp fun m hm => hm.1) (h.neg (by omega))
   ·exact h0
  have h2 := (h1 h0).1
  have h3 := hb.pos
  rcases Int.lt_or_le 0 s.1 with h4 | h4
  ·obtain ⟨y, hy, hV⟩ := h.top h4
   obtain ⟨m, hm, hm2⟩ := hb.good y hy
   obtain rfl := hV.unique hm
   omega
  ·omega
end
section
variable {vs : List Vers} {K T : Nat} (G : GameOk vs K T)
include G
theorem GameOk.gm_list {evs : List Evening} {l : List Nat} (hF : Found (nextP vs) (doneS vs K) (posRun vs (remL vs evs vs.length) []) K (some l)) :
  win (base4 vs K) (succ4 vs T) K l.length (stP vs (remL vs evs vs.length) []) := by
 obtain ⟨hl, hd, _⟩ := hF.yes l rfl
 rw [run_pos G.hv G.hv0 (fun _ h => (remL_iff.1 h).1) l hl] at hd
 exact G.settle_win (G.st_ok (fun x hx => by cases hx) evs) hl hd
end
end Go.Vm

namespace Go.Vm
open Go.Proofs
set_option maxHeartbeats 8000000 in
set_option maxRecDepth 100000 in
theorem c_cueGame (b : Book) (evs : List Evening) (now : Evening) (other : Int) (H : List Blk) : ACall Tryz.prog 13 [eBook b, eEvenings evs, eEvening now, n' other] H (.ret (.lit (.bool true))) H := by
 refine fn_rule (m := false) (fn := Tryz.f13) (c := (Tryz.f13.body).getD .skip) mixed (by kernel_rfl) (by kernel_rfl) (of_decide_eq_true (by kernel_rfl)) ?_ ?_ ?_ H
 ·exact ⟨under_eBook 0 _, under_eEvenings 0 _, under_eEvening 0 _, trivial, trivial⟩
 ·trivial
 ·refine CallG.bool (c_right _ _) (fun hr => ?_) (fun _ => ?_)
  ·refine CallG.bool (c_slim _) (fun hsl => ?_) (fun _ => ?_)
   ·obtain ⟨⟨⟨hsh, hbr⟩, hB⟩, hE⟩ := hr
    have hn1 : now.1.length < 4611686018427387904 := by unfold Slim at hsl; omega
    have hn2 : now.2.length < 4611686018427387904 := by unfold Slim at hsl; omega
    refine CallG.bool (c_evening hB.fit _ hn1 hn2) (fun hN => ?_) (fun _ => ?_)
    ·refine If.mk (fun h8 => ?_) (fun h8 => ?_)
     ·refine ifY ?_
      refine CallG.pure _ (known_call) ?_
      exact ⟨.inl rfl, FinG.mk _ rfl rfl rfl⟩
     ·refine CallG.bool (c_cue hB.fit _) (fun hO => ?_) (fun _ => ?_)
      ·refine ifN ?_
       have G := hB.game
       have hbc := hB.1.1
       unfold inI at hbc hO
       obtain ⟨o, rfl⟩ : ∃ o : Nat, other = (o : Int) := ⟨other.toNat, by omega⟩
       have hlt : o < b.cues.toNat := by omega
       by_cases hne : remL b.vs (evs ++ [now]) b.vs.length = []
       ·refine CallG.pure _ (c_Ask_none hsh.len hB hE hN hne) ?_
        refine If.mk (fun h => absurd h (by decide)) (fun _ => ?_)
        refine If.mk (fun h => absurd h (by decide)) (fun _ => ?_)
        refine If.mk (fun _ => ?_) (fun h => absurd (by decide) h)
        refine ifN ?_
        refine If.mk (fun _ => ?_) (fun h => absurd (by decide) h)
        refine ifY ?_
        refine CallG.pure _ (known_call) ?_
        exact ⟨.inl rfl, FinG.mk _ rfl rfl rfl⟩
       ·have hcc : CuesOk b.cues.toNat now.1 := (LList.cues hN.1.1 (by omega)).1
        obtain ⟨l, hlo, hcu'⟩ := ints_cues hcc
        have hcu := hcu'.symm
        have hp := G.st_ok hlo (evs ++ [now])
        have hn8 : now.1.length < 8 := by omega
        have hne' : remL b.vs evs b.vs.length ≠ [] := fun e => hne (by
         apply List.eq_nil_iff_forall_not_mem.2
         intro x hx
         obtain ⟨n, rfl⟩ : ∃ n : Nat, x = (n : Int) := ⟨x.toNat, by have := remL_mem hx; unfold inI at this; omega⟩
         have := rem_less hx
         rw [e] at this
         cases this)
        have hW : ∀ x, x < b.cues.toNat → ∃ s : Int × Bool, WgOk b.vs b.cues.toNat b.tunes.toNat (succ4 b.vs b.tunes.toNat (stP b.vs (remL b.vs (evs ++ [now]) b.vs.length) l) x) s ∧ ∀ H, ACall Tryz.prog 61 [eBook b, eEvenings evs, eEvening now, n' x] H (.ret (.tup [n' s.1, nb s.2])) H :=
         fun x hx => ⟨_, wgF_ok _, fun H => c_worstL (nc := now.1) (nt := now.2) hsh.len hB hE hN hn8 hlo hcu hx H⟩
        obtain ⟨a, hA, hc⟩ := c_Ask hsh.len hB hE hN hne hlo hcu
        obtain ⟨so, hF, hSt⟩ := c_Settle hsh.len hB hE hne'
        have hnow : now.1 = [] → now = ([], []) ∧ l = [] := fun e => by
         have h9 : (now.1.length : Int) = now.2.length := hN.2
         rw [e] at h9
         refine ⟨Prod.ext e (List.length_eq_zero_iff.1 (by simp at h9; omega)), ?_⟩
         have := cuesI_length l
         rw [← hcu, e] at this
         exact List.length_eq_zero_iff.1 this.symm
        rcases a with _ | _ | ⟨c, n⟩
        ·have hno : ∀ n, ¬ win (base4 b.vs b.cues.toNat) (succ4 b.vs b.tunes.toNat) b.cues.toNat n (stP b.vs (remL b.vs (evs ++ [now]) b.vs.length) l) := by
          cases hA with
          | none h => exact h
         refine CallG.pure _ (hc) ?_
         refine If.mk (fun h => absurd h (by decide)) (fun _ => ?_)
         refine If.mk (fun _ => ?_) (fun h => absurd (by decide) h)
         refine ifN ?_
         refine If.mk (fun h => absurd h (by decide)) (fun _ => ?_)
         refine ifN ?_
         refine If.mk (fun h => absurd h (by decide)) (fun _ => ?_)
         refine ifN ?_
         refine If.mk (fun h => absurd h (by decide)) (fun _ => ?_)
         refine ifN ?_
         refine LoopG.at (n0 := 2) rfl (loop_up mixed (m := false) (fun k => [(1, eEvenings evs), (3, n' o), (4, .ptr 0 0), (6, .ptr 1 0), (9, n' 0), (10, n' 0), (11, n' 5), (12, n' k)]) (fun _ => [(0, bBox b), (1, .box (cEvening now) 51)]) (fun _ => True) 2 2 (leb rfl) trivial ?_ ?_ ?_)
         ·exact ⟨⟨_, rfl, Weak.refl _ _, under_eEvenings _ _⟩, wp rfl trivial, wp rfl (ltb rfl), wp rfl (ltb rfl), wp rfl trivial, wp rfl trivial, wp rfl trivial, wp rfl trivial, trivial⟩
         ·exact ⟨bk rfl rfl, bk rfl rfl, trivial⟩
         ·intro k hk _
          refine If.mk (fun hk2 => ?_) (fun hk2 => ?_)
          ·refine ifY ?_
           obtain rfl | rfl : k = 0 ∨ k = 1 := by omega
           ·refine If.mk (fun h => absurd h (by decide)) (fun _ => ?_)
            refine ifN ?_
            obtain ⟨⟨x, f⟩, hs, hw⟩ := hW _ hlt
            obtain ⟨rfl, rfl⟩ : f = true ∧ x = -1 := G.gm_none hp hno hlt hs
            refine CallG.pure _ (hw) ?_
            refine ifN ?_
            refine If.mk (fun h => absurd h (by decide)) (fun _ => ?_)
            refine If.mk (fun h => absurd h (by decide)) (fun _ => ?_)
            refine If.mk (fun h => absurd h (by decide)) (fun _ => ?_)
            refine If.mk (fun h => absurd h (by decide)) (fun _ => ?_)
            refine ifN ?_
            refine Side.mk (fits64 (by omega)) ?_
            refine ⟨leb rfl, rfl, by omega, trivial, ⟨⟨_, rfl, Weak.refl _ _, under_eEvenings _ _⟩, wp rfl trivial, wp rfl (ltb rfl), wp rfl (ltb rfl), wp rfl trivial, wp rfl trivial, wp rfl trivial, wp rfl trivial, trivial⟩, ⟨bk rfl rfl, bk rfl rfl, trivial⟩, trivial⟩
           ·refine If.mk (fun _ => ?_) (fun h => absurd (by decide) h)
            refine If.mk (fun h => absurd h (by decide)) (fun _ => ?_)
            refine ifN ?_
            obtain ⟨⟨x, f⟩, hs, hw⟩ := hW _ hlt
            obtain ⟨rfl, rfl⟩ : f = true ∧ x = -1 := G.gm_none hp hno hlt hs
            refine CallG.pure _ (hw) ?_
            refine ifN ?_
            refine If.mk (fun h => absurd h (by decide)) (fun _ => ?_)
            refine If.mk (fun h => absurd h (by decide)) (fun _ => ?_)
            refine If.mk (fun h => absurd h (by decide)) (fun _ => ?_)
            refine If.mk (fun h => absurd h (by decide)) (fun _ => ?_)
            refine ifN ?_
            refine Side.mk (fits64 (by omega)) ?_
            refine ⟨leb rfl, rfl, by omega, trivial, ⟨⟨_, rfl, Weak.refl _ _, under_eEvenings _ _⟩, wp rfl trivial, wp rfl (ltb rfl), wp rfl (ltb rfl), wp rfl trivial, wp rfl trivial, wp rfl trivial, wp rfl trivial, trivial⟩, ⟨bk rfl rfl, bk rfl rfl, trivial⟩, trivial⟩
          ·refine ifN ?_
           refine ⟨leb rfl, ?_⟩
           rcases so with _ | l2
           ·refine CallG.pure _ (hSt) ?_
            refine If.mk (fun h9 => ?_) (fun h9 => ?_)
            ·refine If.mk (fun h => absurd h (by decide)) (fun _ => ?_)
             refine ifN ?_
             refine CallG.pure _ (known_call) ?_
             exact ⟨.inl rfl, FinG.mk _ rfl rfl rfl⟩
            ·refine ifN ?_
             refine CallG.pure _ (known_call) ?_
             exact ⟨.inl rfl, FinG.mk _ rfl rfl rfl⟩
           ·refine CallG.pure _ (hSt) ?_
            refine If.mk (fun h9 => ?_) (fun h9 => ?_)
            ·have h10 : now.1 = [] := List.length_eq_zero_iff.1 (by omega)
             obtain ⟨e1, e2⟩ := hnow h10
             have hwin := G.gm_list hF
             rw [← remL_now, ← e1] at hwin
             subst e2
             refine If.mk (fun _ => ?_) (fun h => absurd (by decide) h)
             exact absurd hwin (hno _)
            ·refine ifN ?_
             refine CallG.pure _ (known_call) ?_
             exact ⟨.inl rfl, FinG.mk _ rfl rfl rfl⟩
        ·have hV : Val (base4 b.vs b.cues.toNat) (succ4 b.vs b.tunes.toNat) b.cues.toNat (stP b.vs (remL b.vs (evs ++ [now]) b.vs.length) l) 0 := by
          cases hA with
          | done h => exact Val.zero.2 h
         refine CallG.pure _ (hc) ?_
         refine If.mk (fun _ => ?_) (fun h => absurd (by decide) h)
         refine ifN ?_
         refine If.mk (fun h => absurd h (by decide)) (fun _ => ?_)
         refine ifN ?_
         refine If.mk (fun _ => ?_) (fun h => absurd (by decide) h)
         refine If.mk (fun _ => ?_) (fun h => absurd (by decide) h)
         refine ifY ?_
         refine If.mk (fun _ => ?_) (fun h => absurd (by decide) h)
         refine CallG.pure _ (known_call) ?_
         exact ⟨.inl rfl, FinG.mk _ rfl rfl rfl⟩
        ·have hb : BestQ b.vs b.cues.toNat b.tunes.toNat (stP b.vs (remL b.vs (evs ++ [now]) b.vs.length) l) c n := by
          cases hA with
          | best h => exact h
         have hpos := hb.pos
         have hct := hb.lt
         have hn3 := G.val_lt hp hb.val
         refine CallG.pure _ (hc) ?_
         refine If.mk (fun _ => ?_) (fun h => absurd (by decide) h)
         refine ifN ?_
         refine If.mk (fun h => absurd h (by decide)) (fun _ => ?_)
         refine ifN ?_
         refine If.mk (fun _ => ?_) (fun h => absurd (by decide) h)
         refine If.mk (fun h => absurd h (by omega)) (fun _ => ?_)
         refine ifN ?_
         refine If.mk (fun _ => ?_) (fun h => absurd (by decide) h)
         refine If.mk (fun h => absurd h (by omega)) (fun _ => ?_)
         refine If.mk (fun h => absurd h (by omega)) (fun _ => ?_)
         refine CallG.bool (c_cue hB.fit _) (fun _ => ?_) (fun x => absurd (by unfold inI; omega) x)
         refine ifN ?_
         refine LoopG.at (n0 := 2) rfl (loop_up mixed (m := false) (fun k => [(1, eEvenings evs), (3, n' o), (4, .ptr 0 0), (6, .ptr 1 0), (9, n' c), (10, n' n), (11, n' 0), (12, n' k)]) (fun _ => [(0, bBox b), (1, .box (cEvening now) 51)]) (fun _ => True) 2 2 (leb rfl) trivial ?_ ?_ ?_)
         ·exact ⟨⟨_, rfl, Weak.refl _ _, under_eEvenings _ _⟩, wp rfl trivial, wp rfl (ltb rfl), wp rfl (ltb rfl), wp rfl trivial, wp rfl trivial, wp rfl trivial, wp rfl trivial, trivial⟩
         ·exact ⟨bk rfl rfl, bk rfl rfl, trivial⟩
         ·intro k hk _
          refine If.mk (fun hk2 => ?_) (fun hk2 => ?_)
          ·refine ifY ?_
           obtain rfl | rfl : k = 0 ∨ k = 1 := by omega
           ·refine If.mk (fun h => absurd h (by decide)) (fun _ => ?_)
            refine ifN ?_
            obtain ⟨⟨x, f⟩, hs, hw⟩ := hW _ hlt
            obtain ⟨rfl, hx1, hx2, h4, h5⟩ : f = true ∧ -1 ≤ x ∧ x < 1000 ∧ (0 ≤ x → (n : Int) ≤ x + 1 ∧ ((o : Int) < c → (n : Int) < x + 1)) ∧ ((o : Int) = c → x + 1 = n) := G.gm_best hp hb hlt hs
            refine CallG.pure _ (hw) ?_
            refine ifN ?_
            refine If.mk (fun _ => ?_) (fun h => absurd (by decide) h)
            refine If.mk (fun _ => ?_) (fun h => absurd (by decide) h)
            refine If.mk (fun h0 => ?_) (fun h0 => ?_)
            ·obtain ⟨k1, k2⟩ := h4 h0
             refine Side.mk (fits64 (by omega)) ?_
             refine If.mk (fun h => absurd h (by omega)) (fun _ => ?_)
             refine Side.mk (fits64 (by omega)) ?_
             refine If.mk (fun h6 => ?_) (fun h6 => ?_)
             ·refine If.mk (fun h => absurd h (by have := k2; omega)) (fun _ => ?_)
              refine If.mk (fun _ => ?_) (fun h => absurd (by decide) h)
              refine If.mk (fun h7 => ?_) (fun h7 => ?_)
              ·refine Side.mk (fits64 (by omega)) ?_
               refine If.mk (fun _ => ?_) (fun h => absurd (by have := h5 h7; omega) h)
               refine ifN ?_
               refine Side.mk (fits64 (by omega)) ?_
               refine ⟨leb rfl, rfl, by omega, trivial, ⟨⟨_, rfl, Weak.refl _ _, under_eEvenings _ _⟩, wp rfl trivial, wp rfl (ltb rfl), wp rfl (ltb rfl), wp rfl trivial, wp rfl trivial, wp rfl trivial, wp rfl trivial, trivial⟩, ⟨bk rfl rfl, bk rfl rfl, trivial⟩, trivial⟩
              ·refine ifN ?_
               refine Side.mk (fits64 (by omega)) ?_
               refine ⟨leb rfl, rfl, by omega, trivial, ⟨⟨_, rfl, Weak.refl _ _, under_eEvenings _ _⟩, wp rfl trivial, wp rfl (ltb rfl), wp rfl (ltb rfl), wp rfl trivial, wp rfl trivial, wp rfl trivial, wp rfl trivial, trivial⟩, ⟨bk rfl rfl, bk rfl rfl, trivial⟩, trivial⟩
             ·refine If.mk (fun _ => ?_) (fun h => absurd (by decide) h)
              refine If.mk (fun h7 => ?_) (fun h7 => ?_)
              ·refine Side.mk (fits64 (by omega)) ?_
               refine If.mk (fun _ => ?_) (fun h => absurd (by have := h5 h7; omega) h)
               refine ifN ?_
               refine Side.mk (fits64 (by omega)) ?_
               refine ⟨leb rfl, rfl, by omega, trivial, ⟨⟨_, rfl, Weak.refl _ _, under_eEvenings _ _⟩, wp rfl trivial, wp rfl (ltb rfl), wp rfl (ltb rfl), wp rfl trivial, wp rfl trivial, wp rfl trivial, wp rfl trivial, trivial⟩, ⟨bk rfl rfl, bk rfl rfl, trivial⟩, trivial⟩
              ·refine ifN ?_
               refine Side.mk (fits64 (by omega)) ?_
               refine ⟨leb rfl, rfl, by omega, trivial, ⟨⟨_, rfl, Weak.refl _ _, under_eEvenings _ _⟩, wp rfl trivial, wp rfl (ltb rfl), wp rfl (ltb rfl), wp rfl trivial, wp rfl trivial, wp rfl trivial, wp rfl trivial, trivial⟩, ⟨bk rfl rfl, bk rfl rfl, trivial⟩, trivial⟩
            ·refine If.mk (fun _ => ?_) (fun h => absurd (by decide) h)
             refine If.mk (fun h7 => ?_) (fun h7 => ?_)
             ·exact absurd (h5 h7) (by omega)
             ·refine ifN ?_
              refine Side.mk (fits64 (by omega)) ?_
              refine ⟨leb rfl, rfl, by omega, trivial, ⟨⟨_, rfl, Weak.refl _ _, under_eEvenings _ _⟩, wp rfl trivial, wp rfl (ltb rfl), wp rfl (ltb rfl), wp rfl trivial, wp rfl trivial, wp rfl trivial, wp rfl trivial, trivial⟩, ⟨bk rfl rfl, bk rfl rfl, trivial⟩, trivial⟩
           ·refine If.mk (fun _ => ?_) (fun h => absurd (by decide) h)
            refine If.mk (fun _ => ?_) (fun h => absurd (by decide) h)
            refine ifY ?_
            obtain ⟨⟨x, f⟩, hs, hw⟩ := hW _ hct
            obtain ⟨rfl, hx1, hx2, h4, h5⟩ : f = true ∧ -1 ≤ x ∧ x < 1000 ∧ (0 ≤ x → (n : Int) ≤ x + 1 ∧ ((c : Int) < c → (n : Int) < x + 1)) ∧ ((c : Int) = c → x + 1 = n) := G.gm_best hp hb hct hs
            refine CallG.pure _ (hw) ?_
            refine ifN ?_
            refine If.mk (fun _ => ?_) (fun h => absurd (by decide) h)
            refine If.mk (fun _ => ?_) (fun h => absurd (by decide) h)
            refine If.mk (fun h0 => ?_) (fun h0 => ?_)
            ·obtain ⟨k1, k2⟩ := h4 h0
             refine Side.mk (fits64 (by omega)) ?_
             refine If.mk (fun h => absurd h (by omega)) (fun _ => ?_)
             refine Side.mk (fits64 (by omega)) ?_
             refine If.mk (fun h6 => ?_) (fun h6 => ?_)
             ·refine If.mk (fun h => absurd h (by have := k2; omega)) (fun _ => ?_)
              refine If.mk (fun _ => ?_) (fun h => absurd (by decide) h)
              refine If.mk (fun h7 => ?_) (fun h7 => ?_)
              ·refine Side.mk (fits64 (by omega)) ?_
               refine If.mk (fun _ => ?_) (fun h => absurd (by have := h5 h7; omega) h)
               refine ifN ?_
               refine Side.mk (fits64 (by omega)) ?_
               refine ⟨leb rfl, rfl, by omega, trivial, ⟨⟨_, rfl, Weak.refl _ _, under_eEvenings _ _⟩, wp rfl trivial, wp rfl (ltb rfl), wp rfl (ltb rfl), wp rfl trivial, wp rfl trivial, wp rfl trivial, wp rfl trivial, trivial⟩, ⟨bk rfl rfl, bk rfl rfl, trivial⟩, trivial⟩
              ·refine ifN ?_
               refine Side.mk (fits64 (by omega)) ?_
               refine ⟨leb rfl, rfl, by omega, trivial, ⟨⟨_, rfl, Weak.refl _ _, under_eEvenings _ _⟩, wp rfl trivial, wp rfl (ltb rfl), wp rfl (ltb rfl), wp rfl trivial, wp rfl trivial, wp rfl trivial, wp rfl trivial, trivial⟩, ⟨bk rfl rfl, bk rfl rfl, trivial⟩, trivial⟩
             ·refine If.mk (fun _ => ?_) (fun h => absurd (by decide) h)
              refine If.mk (fun h7 => ?_) (fun h7 => ?_)
              ·refine Side.mk (fits64 (by omega)) ?_
               refine If.mk (fun _ => ?_) (fun h => absurd (by have := h5 h7; omega) h)
               refine ifN ?_
               refine Side.mk (fits64 (by omega)) ?_
               refine ⟨leb rfl, rfl, by omega, trivial, ⟨⟨_, rfl, Weak.refl _ _, under_eEvenings _ _⟩, wp rfl trivial, wp rfl (ltb rfl), wp rfl (ltb rfl), wp rfl trivial, wp rfl trivial, wp rfl trivial, wp rfl trivial, trivial⟩, ⟨bk rfl rfl, bk rfl rfl, trivial⟩, trivial⟩
              ·refine ifN ?_
               refine Side.mk (fits64 (by omega)) ?_
               refine ⟨leb rfl, rfl, by omega, trivial, ⟨⟨_, rfl, Weak.refl _ _, under_eEvenings _ _⟩, wp rfl trivial, wp rfl (ltb rfl), wp rfl (ltb rfl), wp rfl trivial, wp rfl trivial, wp rfl trivial, wp rfl trivial, trivial⟩, ⟨bk rfl rfl, bk rfl rfl, trivial⟩, trivial⟩
            ·refine If.mk (fun _ => ?_) (fun h => absurd (by decide) h)
             refine If.mk (fun h7 => ?_) (fun h7 => ?_)
             ·exact absurd (h5 h7) (by omega)
             ·refine ifN ?_
              refine Side.mk (fits64 (by omega)) ?_
              refine ⟨leb rfl, rfl, by omega, trivial, ⟨⟨_, rfl, Weak.refl _ _, under_eEvenings _ _⟩, wp rfl trivial, wp rfl (ltb rfl), wp rfl (ltb rfl), wp rfl trivial, wp rfl trivial, wp rfl trivial, wp rfl trivial, trivial⟩, ⟨bk rfl rfl, bk rfl rfl, trivial⟩, trivial⟩
          ·refine ifN ?_
           refine ⟨leb rfl, ?_⟩
           rcases so with _ | l2
           ·refine CallG.pure _ (hSt) ?_
            refine If.mk (fun h9 => ?_) (fun h9 => ?_)
            ·refine If.mk (fun h => absurd h (by decide)) (fun _ => ?_)
             refine ifN ?_
             refine CallG.pure _ (known_call) ?_
             exact ⟨.inl rfl, FinG.mk _ rfl rfl rfl⟩
            ·refine ifN ?_
             refine CallG.pure _ (known_call) ?_
             exact ⟨.inl rfl, FinG.mk _ rfl rfl rfl⟩
           ·refine CallG.pure _ (hSt) ?_
            refine If.mk (fun h9 => ?_) (fun h9 => ?_)
            ·have h10 : now.1 = [] := List.length_eq_zero_iff.1 (by omega)
             obtain ⟨e1, e2⟩ := hnow h10
             have hwin := G.gm_list hF
             rw [← remL_now, ← e1] at hwin
             subst e2
             refine If.mk (fun _ => ?_) (fun h => absurd (by decide) h)
             have h11 := hb.val.2 _ hwin
             have hcl := cuesI_length l2
             refine If.mk (fun _ => ?_) (fun h => absurd (by decide) h)
             refine If.mk (fun h => absurd h (by omega)) (fun _ => ?_)
             refine ifN ?_
             refine CallG.pure _ (known_call) ?_
             exact ⟨.inl rfl, FinG.mk _ rfl rfl rfl⟩
            ·refine ifN ?_
             refine CallG.pure _ (known_call) ?_
             exact ⟨.inl rfl, FinG.mk _ rfl rfl rfl⟩
      ·refine ifY ?_
       refine CallG.pure _ (known_call) ?_
       exact ⟨.inl rfl, FinG.mk _ rfl rfl rfl⟩
    ·refine ifY ?_
     refine CallG.pure _ (known_call) ?_
     exact ⟨.inl rfl, FinG.mk _ rfl rfl rfl⟩
   ·refine ifY ?_
    refine CallG.pure _ (known_call) ?_
    exact ⟨.inl rfl, FinG.mk _ rfl rfl rfl⟩
  ·refine ifY ?_
   refine CallG.pure _ (known_call) ?_
   exact ⟨.inl rfl, FinG.mk _ rfl rfl rfl⟩
end Go.Vm

namespace Go.Proofs.YtdhdaadoehbopaaGreatDoor
open Go.Vm Go.ChangeShapes Go.WideShapes Go.ChangeAt Go.RowKit
set_option maxHeartbeats 8000000 in
set_option maxRecDepth 100000 in
theorem cueGame_lifted (os : Os) (started : os.Started) (H : Type) (enc : TypeId × Value → H) :
  ReturnsInHanded {} Tryz.checked os 13 .any (fun w args => (Rows.cueGameSpec.pre enc Tryz.prog Tryz.f13 Rows.cueGameRow.domain false w args ∧ laidMetH Tryz.prog Rows.cueGameRow.laid w) ∧ sizedMet enc Tryz.prog Tryz.f13 (OpenSpec.ofChange Rows.cueGameSpec) false w args)
   (Rows.cueGameSpec.post enc Tryz.prog Tryz.f13 false true false false) := by
 refine returnsInHanded_of_change_and (C := Tryz.checked) (X := fun w _ => laidMetH Tryz.prog Rows.cueGameRow.laid w) (fun _ _ _ hh h => h.of_heap hh) own started (by kernel_rfl) Tryz.func13
  (ChangeSpec.witness_shaped (enc := enc) (C := Tryz.checked) (os := os) (X := fun w _ => laidMetH Tryz.prog Rows.cueGameRow.laid w) false (World.laidAll Tryz.prog os Rows.cueGameRow.laid) #[.agg #[.int .i64 0, .int .i64 0, .slice none 0 0], .slice none 0 0, .agg #[.slice none 0 0, .slice none 0 0], .int .i64 0] 8 (World.laidAll_os _ _ _)
   (World.shaped_of_ZipB (by kernel_rfl) (by kernel_rfl)) (by kernel_rfl) (by kernel_rfl) (by kernel_rfl)
   (by rw [MakeChecks.laidMetH_plain _ _ _ (by kernel_rfl)]; exact laidMet_laidAll _ (by kernel_rfl) (by kernel_rfl))) ?_
 intro W base args ds gs before hval0 hW _ _ _ _
 have hval : ∀ (j : Nat) t v, Tryz.f13.params[j]? = some t → args[j]? = some v → Value.okWide Tryz.prog W .any base t v := hval0
 have hW' := hW
 obtain ⟨p, q, hA0, hV, rfl, _, _⟩ := hW
 have hA : DataW.TrodAll enc Tryz.prog W 0 (fun _ => true) true Tryz.f13.params.toList args.toList ds p := hA0
 rw [Tryz.params13] at hA hval
 obtain ⟨v0, v1, v2, v3, d0, d1, d2, d3, p0, p1, p2, p3, rfl, rfl, rfl, h0, h1, h2, h3⟩ := trodAll_four hA
 obtain ⟨rfl, rfl⟩ := trodVars_none hV
 obtain ⟨x0, r0, _⟩ := arg_book (hval 0 24 v0 rfl rfl) h0
 obtain ⟨x1, r1, _⟩ := arg_evenings (hval 1 40 v1 rfl rfl) h1
 obtain ⟨x2, r2, _⟩ := arg_evening (hval 2 51 v2 rfl rfl) h2
 obtain ⟨x3, r3, _⟩ := arg_int (hval 3 3 v3 rfl rfl) h3
 refine (law_calls (c_cueGame x0 x1 x2 x3) (by simp only [VRels, and_true]; exact ⟨r0, r1, r2, r3⟩)).mono ?_
 rintro e W' ⟨rfl, hk⟩
 exact ⟨_, rfl, law_post laidOut (by kernel_rfl) (by kernel_rfl) (by kernel_rfl) hW' rfl rfl hk⟩
theorem cueGame_named : Tryz.pinned.checked.prog.funcNamed Rows.cueGameRow.func = some 13 := by kernel_rfl
theorem cueGame_inst : Tryz.f13.isInstance Tryz.pinned.checked.prog Rows.cueGameRow.origin Rows.cueGameRow.targs := of_decide_eq_true (by kernel_rfl)
theorem cueGame_wrap : Tryz.f13.isWrapper Tryz.pinned.checked.prog Rows.cueGameRow.wrapper Rows.cueGameRow.mainSum := by unfold Func.isWrapper; first | (rw [if_pos (by decide +kernel)]; kernel_rfl) | (rw [if_neg (by decide +kernel)]; exact ⟨rfl, rfl⟩)
set_option maxHeartbeats 8000000 in
theorem cueGame_closed : joinedFacts Tryz.pinned.checked.prog 13 Tryz.f13 Rows.cueGameSpec Rows.cueGameRow = true := by
 unfold joinedFacts
 refine and_t (and_t (and_t (and_t (and_t (and_t (and_t (and_t (and_t (and_t (and_t (and_t (and_t (and_t (and_t (and_t (and_t (and_t (and_t (and_t (and_t (and_t (and_t (and_t (and_t (and_t (and_t (and_t (and_t (and_t (and_t ?_ ?_) ?_) ?_) ?_) ?_) ?_) ?_) ?_) ?_) ?_) ?_) ?_) ?_) ?_) ?_) ?_) ?_) ?_) ?_) ?_) ?_) ?_) ?_) ?_) ?_) ?_) ?_) ?_) ?_) ?_) ?_
 ·as_aux_lemma => kernel_rfl
 ·as_aux_lemma => kernel_rfl
 ·as_aux_lemma => kernel_rfl
 ·as_aux_lemma => kernel_rfl
 ·as_aux_lemma => kernel_rfl
 ·as_aux_lemma => kernel_rfl
 ·as_aux_lemma => kernel_rfl
 ·as_aux_lemma => kernel_rfl
 ·as_aux_lemma => kernel_rfl
 ·as_aux_lemma => kernel_rfl
 ·as_aux_lemma => kernel_rfl
 ·as_aux_lemma => kernel_rfl
 ·as_aux_lemma => kernel_rfl
 ·as_aux_lemma => kernel_rfl
 ·as_aux_lemma => kernel_rfl
 ·as_aux_lemma => kernel_rfl
 ·as_aux_lemma => kernel_rfl
 ·as_aux_lemma => kernel_rfl
 ·as_aux_lemma => kernel_rfl
 ·as_aux_lemma => kernel_rfl
 ·as_aux_lemma => kernel_rfl
 ·as_aux_lemma => kernel_rfl
 ·as_aux_lemma => kernel_rfl
 ·as_aux_lemma => kernel_rfl
 ·as_aux_lemma => kernel_rfl
 ·as_aux_lemma => kernel_rfl
 ·as_aux_lemma => kernel_rfl
 ·as_aux_lemma => kernel_rfl
 ·as_aux_lemma => kernel_rfl
 ·as_aux_lemma => kernel_rfl
 ·as_aux_lemma => kernel_rfl
 ·as_aux_lemma => kernel_rfl
theorem cueGame_holds : Rows.CueGameSaid :=
 OpenClaim.holds_of_wide 13 Tryz.f13 rfl rfl rfl rfl rfl rfl rfl ⟨rfl, rfl, rfl, rfl, rfl⟩ rfl rfl rfl rfl rfl cueGame_named Tryz.func13 cueGame_closed cueGame_inst cueGame_wrap
  (fun os started H enc _ => cueGame_lifted os started H enc)
set_option maxHeartbeats 8000000 in
theorem cueGame_card : Rows.CueGameCardSaid :=
 Claim7.holds_tied_plain_at .later [] [.data, .data, .data, .data, .pinned] true (true, "d200c2f9484011b2fecf6d987098eee6f4d6857560912b686a09e1298a9b974d") true cueGame_holds (fun _ h => by cases h) (by as_aux_lemma => kernel_rfl) (fun _ h => by cases h) cueGame_row_tie rfl ⟨rfl, rfl⟩ (by as_aux_lemma => kernel_rfl) rfl
  (fun f fn hf hfn => by
   obtain rfl : f = 13 := Option.some.inj (cueGame_named.symm.trans hf) |>.symm
   obtain rfl : fn = Tryz.f13 := (Option.some.inj (Tryz.func13.symm.trans hfn)).symm
   exact ⟨by as_aux_lemma => kernel_rfl, fun j t ht => by
    rw [Tryz.params13] at ht
    have hm : t ∈ [24, 40, 51, 3] := by simpa using Array.mem_of_getElem? ht
    have hall : ([24, 40, 51, 3].all fun u => !Tryz.prog.wantsStandIn u) = true := by kernel_rfl
    exact (show Tryz.prog.wantsStandIn t = false by simpa using List.all_eq_true.1 hall t hm)⟩)
  (by as_aux_lemma => kernel_rfl)
end Go.Proofs.YtdhdaadoehbopaaGreatDoor
