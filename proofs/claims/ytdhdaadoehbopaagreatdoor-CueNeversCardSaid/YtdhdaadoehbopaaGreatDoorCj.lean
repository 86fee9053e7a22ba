/-
  Contracts of functions of packages kelirlaw04, kelirref04, kelirref02, cue and slices, for books, evenings and lists as told at each, in every heap. Conditions: at each theorem. (What remains, with the errors.)
-/
import Derived.Test.YtdhdaadoehbopaaGreatDoorCh
import Derived.Test.YtdhdaadoehbopaaGreatDoorCc
import Derived.Test.YtdhdaadoehbopaaGreatDoorVc

/-
  Contracts: Fits, Remains of package kelirref04. (Own work.)
-/
namespace Go.Vm
open Go.Proofs

set_option maxRecDepth 100000 in
theorem c_fits (t h : List Int) (hth : t.length = h.length) (hl : h.length < 4611686018427387904) (hm : ∀ x ∈ h, -1 ≤ x) (H : List Blk) : ACall Tryz.prog 48 [eInts t, eInts h] H (.ret (.lit (.bool (decide (Noted t h))))) H := by
  refine fn_rule (m := false) (fn := Tryz.f48) (c := (Tryz.f48.body).getD .skip) mixed (by kernel_rfl) (by kernel_rfl) (of_decide_eq_true (by kernel_rfl)) ?_ ?_ ?_ H
  · exact ⟨under_eInts 0 _, under_eInts 0 _, trivial⟩
  · trivial
  · refine LoopG.at (n0 := 0) rfl (loop_up mixed (m := false) (fun r => [(0, eInts t), (1, eInts h), (5, n' r)]) (fun _ => []) (fun r => ∀ i, i < r → 0 ≤ h.getD i 0 → t.getD i 0 = h.getD i 0) h.length 0 (Nat.zero_le _) (fun _ h => absurd h (Nat.not_lt_zero _)) ?_ trivial ?_)
    · exact ⟨⟨_, rfl, Weak.refl _ _, under_eInts _ _⟩, ⟨_, rfl, Weak.refl _ _, under_eInts _ _⟩, ⟨_, rfl, Weak.refl _ _, trivial⟩, trivial⟩
    · intro r hr hI
      refine If.mk (fun h1 => ?_) (fun h1 => ?_)
      · refine If.mk (fun _ => ?_) (fun h => absurd (by omega) h)
        refine IfB.mk (fun _ => ?_) (fun e => by cases e)
        obtain ⟨x, hx1, _, hxm⟩ := at_some (l := h) (r := r) (by omega)
        obtain ⟨y, hy1, _, _⟩ := at_some (l := t) (r := r) (by omega)
        have hx0 := hm x hxm
        have next : (0 ≤ x → y = x) → ∀ i, i < r + 1 → 0 ≤ h.getD i 0 → t.getD i 0 = h.getD i 0 := fun hxy i hi => by
          rcases Nat.lt_or_ge i r with hlt | hge
          · exact hI i hlt
          · have : i = r := by omega
            subst this
            rw [getD_of hx1, getD_of hy1]; exact hxy
        refine Ex.mk _ (jx_ints (r := r) rfl hx1) ?_
        refine Ex.mk _ rfl ?_
        refine If.mk (fun h2 => ?_) (fun h2 => ?_)
        · refine IfB.mk (fun e => by cases e) (fun _ => ?_)
          refine Side.mk (fits64 (by omega)) ?_
          exact ⟨Nat.zero_le _, rfl, by omega, next (fun e => by omega), ⟨⟨_, rfl, Weak.refl _ _, under_eInts _ _⟩, ⟨_, rfl, Weak.refl _ _, under_eInts _ _⟩, ⟨_, rfl, Weak.refl _ _, trivial⟩, trivial⟩, trivial, trivial⟩
        · refine Ex.mk _ (jx_ints (r := r) rfl hx1) ?_
          refine Ex.mk _ rfl ?_
          refine Ex.mk _ (jx_ints (r := r) rfl hy1) ?_
          refine Ex.mk _ rfl ?_
          refine If.mk (fun h3 => ?_) (fun h3 => ?_)
          · refine IfB.mk (fun e => by cases e) (fun _ => ?_)
            refine Side.mk (fits64 (by omega)) ?_
            exact ⟨Nat.zero_le _, rfl, by omega, next (fun _ => h3.symm), ⟨⟨_, rfl, Weak.refl _ _, under_eInts _ _⟩, ⟨_, rfl, Weak.refl _ _, under_eInts _ _⟩, ⟨_, rfl, Weak.refl _ _, trivial⟩, trivial⟩, trivial, trivial⟩
          · refine IfB.mk (fun _ => ?_) (fun e => by cases e)
            exact ⟨Nat.zero_le _, .inl rfl, FinG.no rfl rfl (fun e => h3 (by have := e r (by omega); rw [getD_of hx1, getD_of hy1] at this; exact (this (by omega)).symm))⟩
      · refine IfB.mk (fun e => by cases e) (fun _ => ?_)
        have er : r = h.length := by omega
        subst er
        refine ⟨Nat.zero_le _, ?_⟩
        refine If.mk (fun _ => ?_) (fun h => absurd (by omega) h)
        exact ⟨.inl rfl, FinG.yes rfl rfl hI⟩

theorem heard_m1 {b : Book} {l : List Int} (h : LTunes b l) : ∀ x ∈ l, -1 ≤ x := fun x hx => by
  have := h.1 x hx
  unfold inI at this
  by_cases e : x = -1
  · omega
  · have := this e; omega

def inS (b : Book) (evs : List Evening) (r q : Nat) (sm : Bool) : List (Nat × AV) := [(1, eEvenings evs), (2, .ptr 0 0), (5, remA b evs r), (6, n' r), (7, nb sm), (8, n' q)]

set_option maxRecDepth 100000 in
/-- What the document's Remains returns. -/
theorem c_refRemains {b : Book} (hB : BOk b) {evs : List Evening} (hE : ∀ e ∈ evs, EvOk b e) (hel : evs.length < 1000) (H : List Blk) : ACall Tryz.prog 41 [eBook b, eEvenings evs] H (.ret (eInts (remL b.vs evs b.vs.length))) H := by
  have hvl := hB.1.2.2
  unfold inI at hvl
  have h0c := hB.1.1.1
  refine fn_rule (m := false) (fn := Tryz.f41) (c := (Tryz.f41.body).getD .skip) mixed (by kernel_rfl) (by kernel_rfl) (of_decide_eq_true (by kernel_rfl)) ?_ ?_ ?_ H
  · exact ⟨under_eBook 0 _, under_eEvenings 0 _, trivial⟩
  · exact under_eInts 0 _
  · refine LoopG.ghost (LoopG.at (n0 := 2) rfl ?_)
    refine loop_up mixed (m := false) (fun r => [(1, eEvenings evs), (2, .ptr 0 0), (5, remA b evs r), (6, n' r)]) (fun r => [(0, bBox b), (1, .row (remL b.vs evs r).length)]) (fun _ => True) b.vs.length 1 (leb rfl) trivial ?_ ?_ ?_
    · exact ⟨⟨_, rfl, Weak.refl _ _, under_eEvenings _ _⟩, ⟨_, rfl, Weak.refl _ _, ltb rfl⟩, ⟨_, rfl, Weak.own (r := 1) (g := 0) 1 rfl, ⟨trivial, ltb rfl⟩⟩, ⟨_, rfl, Weak.refl _ _, trivial⟩, trivial⟩
    · exact ⟨⟨rfl, ltb rfl⟩, ⟨rfl, ltb rfl⟩, trivial⟩
    · intro r hr _
      have hrl := remL_length b.vs evs r
      refine If.mk (fun h1 => ?_) (fun h1 => ?_)
      · refine IfB.mk (fun _ => ?_) (fun e => by cases e)
        obtain ⟨v, hv, _, hvm⟩ := at_some (l := b.vs) (r := r) (by omega)
        obtain ⟨hvo, h0⟩ := (hB.2 v hvm).vers
        have evd : b.vs.getD r [] = v := getD_of hv
        refine LoopG.at (n0 := 2) rfl (loop_r (α := { q : Nat × Bool // q.1 ≤ evs.length ∧ (q.2 = true ↔ ∀ e ∈ evs.take q.1, Noted (plays v 0 e.1) e.2) }) mixed (m := false) (fun a => inS b evs r a.1.1 a.1.2) (fun _ => [(0, bBox b), (1, .row (remL b.vs evs r).length)]) (fun a => evs.length - a.1.1) 2 ⟨(0, true), Nat.zero_le _, ⟨fun _ j h => by simp at h, fun _ => rfl⟩⟩ (leb rfl) ?_ ?_ ?_)
        · exact ⟨⟨_, rfl, Weak.refl _ _, under_eEvenings _ _⟩, ⟨_, rfl, Weak.refl _ _, ltb rfl⟩, ⟨_, rfl, Weak.refl _ _, ⟨under_ints _ _, ltb rfl⟩⟩, ⟨_, rfl, Weak.refl _ _, trivial⟩, ⟨_, rfl, Weak.refl _ _, trivial⟩, ⟨_, rfl, Weak.refl _ _, trivial⟩, trivial⟩
        · exact ⟨⟨rfl, ltb rfl⟩, ⟨rfl, ltb rfl⟩, trivial⟩
        · rintro ⟨⟨q, sm⟩, hq, hsm⟩
          refine If.mk (fun h2 => ?_) (fun h2 => ?_)
          · refine IfB.mk (fun _ => ?_) (fun e => by cases e)
            have h2' : (q : Int) < (evs.length : Nat) := h2
            obtain ⟨e, he, htk, hem⟩ := at_some (l := evs) (r := q) (by omega)
            obtain ⟨⟨hle1, hle2⟩, hle3⟩ := hE e hem
            obtain ⟨hc1, hc2⟩ := hle1.cues (by omega)
            have hle4 := hle2.2
            cases sm with
            | true =>
              have hall := hsm.1 rfl
              refine Ex.mk _ (jx_versions (r := r) rfl hv) ?_
              refine Ex.mk _ rfl ?_
              refine Ex.mk _ (jx_evenings (r := q) rfl he) ?_
              refine Ex.mk _ rfl ?_
              refine CallG.pure _ (c_refPlays hvo h0 hc1 hc2) ?_
              refine Ex.mk _ (jx_evenings (r := q) rfl he) ?_
              refine Ex.mk _ rfl ?_
              refine CallG.bool (c_fits _ _ (by rw [plays_length]; omega) (by omega) (heard_m1 hle2)) (fun h3 => ?_) (fun h3 => ?_)
              · refine Side.mk (fits64 (by omega)) ?_
                refine ⟨leb rfl, rfl, ⟨(q + 1, true), (by show q + 1 ≤ evs.length; omega), ⟨fun _ i hi => ?_, fun _ => rfl⟩⟩, (by show evs.length - (q + 1) < evs.length - q; omega), ⟨⟨_, rfl, Weak.refl _ _, under_eEvenings _ _⟩, ⟨_, rfl, Weak.refl _ _, ltb rfl⟩, ⟨_, rfl, Weak.refl _ _, ⟨under_ints _ _, ltb rfl⟩⟩, ⟨_, rfl, Weak.refl _ _, trivial⟩, ⟨_, rfl, Weak.refl _ _, trivial⟩, ⟨_, rfl, Weak.refl _ _, trivial⟩, trivial⟩, ⟨⟨rfl, ltb rfl⟩, ⟨rfl, ltb rfl⟩, trivial⟩, trivial⟩
                rw [htk] at hi
                rcases List.mem_append.1 hi with hi | hi
                · exact hall i hi
                · rw [List.mem_singleton] at hi; subst hi; exact h3
              · refine Side.mk (fits64 (by omega)) ?_
                refine ⟨leb rfl, rfl, ⟨(q + 1, false), (by show q + 1 ≤ evs.length; omega), ⟨fun e => (by cases e), fun e => ?_⟩⟩, (by show evs.length - (q + 1) < evs.length - q; omega), ⟨⟨_, rfl, Weak.refl _ _, under_eEvenings _ _⟩, ⟨_, rfl, Weak.refl _ _, ltb rfl⟩, ⟨_, rfl, Weak.refl _ _, ⟨under_ints _ _, ltb rfl⟩⟩, ⟨_, rfl, Weak.refl _ _, trivial⟩, ⟨_, rfl, Weak.refl _ _, trivial⟩, ⟨_, rfl, Weak.refl _ _, trivial⟩, trivial⟩, ⟨⟨rfl, ltb rfl⟩, ⟨rfl, ltb rfl⟩, trivial⟩, trivial⟩
                exact absurd (e _ (by rw [htk]; exact List.mem_append_right _ (List.mem_singleton.2 rfl))) h3
            | false =>
              refine Side.mk (fits64 (by omega)) ?_
              refine ⟨leb rfl, rfl, ⟨(q + 1, false), (by show q + 1 ≤ evs.length; omega), ⟨fun e => (by cases e), fun e => ?_⟩⟩, (by show evs.length - (q + 1) < evs.length - q; omega), ⟨⟨_, rfl, Weak.refl _ _, under_eEvenings _ _⟩, ⟨_, rfl, Weak.refl _ _, ltb rfl⟩, ⟨_, rfl, Weak.refl _ _, ⟨under_ints _ _, ltb rfl⟩⟩, ⟨_, rfl, Weak.refl _ _, trivial⟩, ⟨_, rfl, Weak.refl _ _, trivial⟩, ⟨_, rfl, Weak.refl _ _, trivial⟩, trivial⟩, ⟨⟨rfl, ltb rfl⟩, ⟨rfl, ltb rfl⟩, trivial⟩, trivial⟩
              exact hsm.2 fun i hi => e i (by rw [htk]; exact List.mem_append_left _ hi)
          · refine IfB.mk (fun e => by cases e) (fun _ => ?_)
            refine ⟨leb rfl, ?_⟩
            have h2' : ¬ ((q : Int) < (evs.length : Nat)) := h2
            have htake : evs.take q = evs := List.take_of_length_le (by omega)
            have hsm' : sm = true ↔ Agrees v evs := by
              have := hsm
              simp only [htake] at this
              exact this
            cases sm with
            | true =>
              refine IfB.mk (fun _ => ?_) (fun e => by cases e)
              refine ex_app _ _ (app_int (List.length_map _) (by omega) rfl) ?_
              refine Side.mk (fits64 (by omega)) ?_
              have e5 : remL b.vs evs (r + 1) = remL b.vs evs r ++ [(r : Int)] := by
                show (if Agrees (b.vs.getD r []) evs then remL b.vs evs r ++ [(r : Int)] else remL b.vs evs r) = _
                rw [evd, if_pos (hsm'.1 rfl)]
              refine ⟨leb rfl, rfl, by omega, trivial, ⟨⟨_, rfl, Weak.refl _ _, under_eEvenings _ _⟩, ⟨_, rfl, Weak.refl _ _, ltb rfl⟩, ⟨_, rfl, Weak.of_eq (?_), ⟨under_ints _ _, ltb rfl⟩⟩, ⟨_, rfl, Weak.refl _ _, trivial⟩, trivial⟩, ⟨⟨rfl, ltb rfl⟩, ⟨?_, ltb rfl⟩, trivial⟩, ⟨_, rfl, trivial⟩, trivial⟩
              · unfold remA; rw [e5, List.length_append, List.map_append]; rfl
              · show some (Blk.row ((remL b.vs evs r).length + 1)) = some (Blk.row (remL b.vs evs (r + 1)).length)
                rw [e5, List.length_append]; rfl
            | false =>
              refine IfB.mk (fun e => by cases e) (fun _ => ?_)
              refine Side.mk (fits64 (by omega)) ?_
              have e5 : remL b.vs evs (r + 1) = remL b.vs evs r := by
                show (if Agrees (b.vs.getD r []) evs then remL b.vs evs r ++ [(r : Int)] else remL b.vs evs r) = _
                rw [evd, if_neg (fun x => by cases hsm'.2 x)]
              refine ⟨leb rfl, rfl, by omega, trivial, ⟨⟨_, rfl, Weak.refl _ _, under_eEvenings _ _⟩, ⟨_, rfl, Weak.refl _ _, ltb rfl⟩, ⟨_, rfl, Weak.of_eq (?_), ⟨under_ints _ _, ltb rfl⟩⟩, ⟨_, rfl, Weak.refl _ _, trivial⟩, trivial⟩, ⟨⟨rfl, ltb rfl⟩, ⟨?_, ltb rfl⟩, trivial⟩, trivial⟩
              · unfold remA; rw [e5]
              · show some (Blk.row (remL b.vs evs r).length) = some (Blk.row (remL b.vs evs (r + 1)).length)
                rw [e5]
      · refine IfB.mk (fun e => by cases e) (fun _ => ?_)
        have er : r = b.vs.length := by omega
        subst er
        refine ⟨leb rfl, .inl rfl, FinG.mk _ rfl rfl ?_⟩
        show AV.sl _ (AV.freezes _ ((remL b.vs evs b.vs.length).map n')) .unk = _
        rw [freezes_ints]
        rfl
end Go.Vm

/-
  Contracts: Sure of package kelirref04. (Own work.)
-/
namespace Go.Vm
open Go.Proofs

set_option maxRecDepth 100000 in
theorem c_from12 {v : Vers} {k : Nat} {c0 : Int} {cs : List Int} (hv : VersOk v k) (h0 : 0 < v.length) (hc : CuesOk k (c0 :: cs)) (hL : cs.length < 1000000) {t : Trie Blk} (H : List Blk) (hH : HT t 12 H) :
    ∃ H', HT (setL t [(26, .mrow cs.length ((plays v 0 (c0 :: cs)).map n'))]) 27 H' ∧ ACall Tryz.prog 92 [eVersion v, n' 0, eInts (c0 :: cs)] H (.ret (.tup [.msl 26 cs.length (cs.length + 1) 1, n' (after v 0 (c0 :: cs) : Nat)])) H' ∧ Keep H H' noLo := by
  refine fn_new (m := true) (fn := Tryz.f92) (c := (Tryz.f92.body).getD .skip) mixed (by kernel_rfl) (by kernel_rfl) (of_decide_eq_true (by kernel_rfl)) ?_ H hH
  refine LoopG.round (m := true) mixed ?_
  have hlen : (c0s 0 cs).length = cs.length + 1 := rfl
  refine If.mk (fun _ => ?_) (fun h => absurd (by simp) h)
  refine IfB.mk (fun _ => ?_) (fun e => by cases e)
  have hck := hc c0 (by simp)
  obtain ⟨j, rfl⟩ : ∃ j : Nat, c0 = j := ⟨c0.toNat, by omega⟩
  obtain ⟨x, hx1, hx2, hx3, hx4⟩ := mv_at (s := 0) (c := j) hv h0 (by omega)
  refine Ex.mk _ (jx_states (r := 0) rfl hx1) ?_
  refine Ex.mk _ rfl ?_
  refine Ex.mk _ (jx_ints (r := 0) rfl rfl) ?_
  refine Ex.mk _ rfl ?_
  refine Ex.mk _ (jx_moves (r := j) (by omega) hx2) ?_
  refine Ex.mk _ rfl ?_
  refine Ex.mk _ rfl ?_
  refine Side.mk (by unfold fitsK; kernel_rfl) ?_
  have hlen : (c0s j cs).length = cs.length + 1 := rfl
  refine loop_up mixed (m := true) (fun r => [(1, n' (after v 0 ((c0s j cs).take (r + 1)) : Nat)), (2, eInts (c0s j cs)), (3, .ptr 12 0), (8, .msl 26 r (r + 1) 1), (9, n' (r + 1 : Nat))])
    (fun r => [(12, vBox v), (24, .box [n' (mv v 0 j).1, n' (mv v 0 j).2] 116), (25, .defd), (26, .mrow r ((plays v 0 ((c0s j cs).take (r + 1))).map n'))]) (fun _ => True) cs.length 24 (leb rfl) trivial ?_ ?_ ?_
  · refine ⟨⟨_, rfl, Weak.of_eq (?_), trivial⟩, ⟨_, rfl, Weak.refl _ _, under_eInts _ _⟩, ⟨_, rfl, Weak.refl _ _, ltb rfl⟩, ⟨_, rfl, Weak.refl _ _, ltb rfl⟩, ⟨_, rfl, Weak.refl _ _, trivial⟩, trivial⟩
    show n' (mv v 0 j).1 = n' (((mv v 0 j).1.toNat : Nat) : Int)
    rw [hx4]
  · exact ⟨⟨rfl, ltb rfl⟩, ⟨rfl, ltb rfl⟩, ⟨rfl, ltb rfl⟩, ⟨rfl, ltb rfl⟩, trivial⟩
  · intro r hr _
    refine If.mk (fun h1 => ?_) (fun h1 => ?_)
    · refine IfB.mk (fun _ => ?_) (fun e => by cases e)
      have h1' : ((r + 1 : Nat) : Int) < ((c0s j cs).length : Nat) := h1
      obtain ⟨c, hc1, hc2, hc3⟩ := at_some (l := c0s j cs) (r := r + 1) (by omega)
      have hck' := hc c hc3
      obtain ⟨j', rfl⟩ : ∃ j : Nat, c = j := ⟨c.toNat, by omega⟩
      have hsl := after_lt (l := (c0s j cs).take (r + 1)) hv (fun c hc' => hc c (List.mem_of_mem_take hc')) h0
      obtain ⟨y, hy1, hy2, hy3, hy4⟩ := mv_at (s := after v 0 ((c0s j cs).take (r + 1))) (c := j') hv hsl (by omega)
      refine Ex.mk _ (jx_states (r := after v 0 ((c0s j cs).take (r + 1))) rfl hy1) ?_
      refine Ex.mk _ rfl ?_
      refine Ex.mk _ (jx_ints (r := r + 1) rfl hc1) ?_
      refine Ex.mk _ rfl ?_
      refine Ex.mk _ (jx_moves (r := j') (by omega) hy2) ?_
      refine Ex.mk _ rfl ?_
      refine ex_app _ _ (app_intM (by rw [List.length_map, plays_length, List.length_take]; omega) (by omega) rfl) ?_
      refine Side.mk (fits64 (by omega)) ?_
      have ea : after v 0 ((c0s j cs).take (r + 1 + 1)) = (mv v (after v 0 ((c0s j cs).take (r + 1))) j').1.toNat := by rw [hc2, after_snoc]; rfl
      have ep : plays v 0 ((c0s j cs).take (r + 1 + 1)) = plays v 0 ((c0s j cs).take (r + 1)) ++ [(mv v (after v 0 ((c0s j cs).take (r + 1))) j').2] := by rw [hc2, plays_snoc]; rfl
      refine ⟨leb rfl, rfl, by omega, trivial, ⟨⟨_, rfl, Weak.of_eq (?_), trivial⟩, ⟨_, rfl, Weak.refl _ _, under_eInts _ _⟩, ⟨_, rfl, Weak.refl _ _, ltb rfl⟩, ⟨_, rfl, Weak.refl _ _, ltb rfl⟩, ⟨_, rfl, Weak.refl _ _, trivial⟩, trivial⟩, ⟨⟨rfl, ltb rfl⟩, ⟨rfl, ltb rfl⟩, ⟨rfl, ltb rfl⟩, ⟨?_, ltb rfl⟩, trivial⟩, ⟨_, rfl, unders_append (under_ints _ _) ⟨trivial, trivial⟩⟩, trivial⟩
      · rw [ea, hy4]
      · show some (Blk.mrow (r + 1) ((plays v 0 ((c0s j cs).take (r + 1))).map n' ++ [n' (mv v (after v 0 ((c0s j cs).take (r + 1))) j').2])) = some (Blk.mrow (r + 1) ((plays v 0 ((c0s j cs).take (r + 1 + 1))).map n'))
        rw [ep, List.map_append]; rfl
    · refine IfB.mk (fun e => by cases e) (fun _ => ?_)
      have h1' : ¬ (((r + 1 : Nat) : Int) < ((c0s j cs).length : Nat)) := h1
      have er : r = cs.length := by omega
      subst er
      have et : (c0s j cs).take (cs.length + 1) = c0s j cs := List.take_of_length_le (by simp)
      refine ⟨leb rfl, .inl rfl, leb rfl, rfl, ⟨⟨?_, ltb rfl⟩, trivial⟩, FinF.mk _ rfl rfl ?_⟩
      · show some (Blk.mrow cs.length ((plays v 0 ((c0s j cs).take (cs.length + 1))).map n')) = _
        rw [et]
      · show AV.tup [.msl 26 cs.length (cs.length + 1) 1, n' (after v 0 ((c0s j cs).take (cs.length + 1)) : Nat)] = _
        rw [et]

set_option maxRecDepth 100000 in
theorem c_refPlays11 {v : Vers} {k : Nat} {c0 : Int} {cs : List Int} (hv : VersOk v k) (h0 : 0 < v.length) (hc : CuesOk k (c0 :: cs)) (hL : cs.length < 1000000) {t : Trie Blk} (H : List Blk) (hH : HT t 11 H) :
    ∃ H', HT (setL t [(26, .mrow cs.length ((plays v 0 (c0 :: cs)).map n'))]) 27 H' ∧ ACall Tryz.prog 81 [eVersion v, eInts (c0 :: cs)] H (.ret (.msl 26 cs.length (cs.length + 1) 1)) H' ∧ Keep H H' noLo := by
  refine fn_new (m := true) (fn := Tryz.f81) (c := (Tryz.f81.body).getD .skip) mixed (by kernel_rfl) (by kernel_rfl) (of_decide_eq_true (by kernel_rfl)) ?_ H hH
  refine CallG.new _ (c_from12 hv h0 hc hL) ?_
  refine ⟨.inl rfl, leb rfl, rfl, ⟨⟨rfl, ltb rfl⟩, trivial⟩, FinF.mk _ rfl rfl rfl⟩

def rsT (b : Book) (g : Nat) (o : List Int) : List (Nat × Blk) := [(0, bBox b), (26, .mrow g (o.map n'))]
def d11 : List (Nat × Blk) := [(27, .defd), (28, .defd), (29, .defd), (30, .defd), (31, .defd), (32, .defd), (33, .defd), (34, .defd), (35, .defd), (36, .defd), (37, .defd)]

set_option maxRecDepth 100000 in
theorem c_refSure1 {b : Book} (hB : BOk b) {c0 : Int} {cs : List Int} (hC : LList b (c0 :: cs)) {i : Int} {R : List Int} (hmem : ∀ j ∈ i :: R, 0 ≤ j ∧ j < b.vs.length) (hlen : (i :: R).length ≤ b.vs.length) (H : List Blk) :
    ACall Tryz.prog 42 [eBook b, eInts (i :: R), eInts (c0 :: cs)] H (.ret (eInts (sureL b (c0 :: cs) (i :: R)))) H := by
  have hvl := hB.1.2.2
  unfold inI at hvl
  have h1c := hB.1.1.1
  obtain ⟨hc1, hc2⟩ := hC.cues (by omega)
  have hcl := hC.1
  have hcsl : cs.length < 1000000 := by simp at hc2; omega
  refine fn_rule (m := false) (fn := Tryz.f42) (c := (Tryz.f42.body).getD .skip) mixed (by kernel_rfl) (by kernel_rfl) (of_decide_eq_true (by kernel_rfl)) ?_ ?_ ?_ H
  · exact ⟨under_eBook 0 _, under_eInts 0 _, under_eInts 0 _, trivial⟩
  · exact under_eInts 0 _
  · obtain ⟨v, hv, hpl, hvo, h0⟩ := pl_at hB (cues := c0 :: cs) (hmem i (by simp))
    refine Ex.mk _ (jx_ints (r := 0) rfl rfl) ?_
    refine Ex.mk _ rfl ?_
    refine Ex.mk _ (jx_versions (r := i.toNat) (by have := hmem i (by simp); omega) hv) ?_
    refine Ex.mk _ rfl ?_
    refine CallG.new _ (c_refPlays11 hvo h0 hc1 (by simp at hc2; omega)) ?_
    have hpll : (plays v 0 (c0 :: cs)).length = cs.length + 1 := by rw [plays_length]; rfl
    refine loop_up mixed (m := false) (fun r => [(1, eInts (i :: R)), (2, eInts (c0 :: cs)), (3, .ptr 0 0), (7, .msl 26 cs.length (cs.length + 1) 1), (8, n' (r + 1 : Nat))])
      (fun r => rsT b cs.length (outR b (c0 :: cs) (plays v 0 (c0 :: cs)) R r)) (fun _ => True) R.length 26 (leb rfl) trivial ?_ ?_ ?_
    · exact ⟨⟨_, rfl, Weak.refl _ _, under_eInts _ _⟩, ⟨_, rfl, Weak.refl _ _, under_eInts _ _⟩, ⟨_, rfl, Weak.refl _ _, ltb rfl⟩, ⟨_, rfl, Weak.refl _ _, ltb rfl⟩, ⟨_, rfl, Weak.refl _ _, trivial⟩, trivial⟩
    · exact ⟨⟨rfl, ltb rfl⟩, ⟨rfl, ltb rfl⟩, trivial⟩
    · intro r hr _
      have hol := outR_length (b := b) (cues := c0 :: cs) (o := plays v 0 (c0 :: cs)) (R := R) hpll r hr
      refine If.mk (fun h2 => ?_) (fun h2 => ?_)
      · refine IfB.mk (fun _ => ?_) (fun e => by cases e)
        have h2' : ((r + 1 : Nat) : Int) < (((i :: R).length : Nat) : Int) := h2
        rw [List.length_cons] at h2'
        obtain ⟨j, hj1, _, hj3⟩ := at_some (l := R) (r := r) (by omega)
        obtain ⟨v', hv', hpl', hvo', h0'⟩ := pl_at hB (cues := c0 :: cs) (hmem j (by simp [hj3]))
        refine Ex.mk _ (jx_ints (l := i :: R) (r := r + 1) rfl hj1) ?_
        refine Ex.mk _ rfl ?_
        refine Ex.mk _ (jx_versions (r := j.toNat) (by have := hmem j (by simp [hj3]); omega) hv') ?_
        refine Ex.mk _ rfl ?_
        refine CallG.pure _ (c_refPlays hvo' h0' hc1 (by simp at hc2 ⊢; omega)) ?_
        have hol2 : (outR b (c0 :: cs) (plays v 0 (c0 :: cs)) R r).length = (plays v' 0 (c0 :: cs)).length := by rw [hol, plays_length]
        have hol3 : (outR b (c0 :: cs) (plays v 0 (c0 :: cs)) R r).length = cs.length + 1 := hol
        refine LoopG.at (n0 := 38) rfl (loop_up mixed (m := false) (fun q => [(1, eInts (i :: R)), (2, eInts (c0 :: cs)), (3, .ptr 0 0), (7, .msl 26 cs.length (cs.length + 1) 1), (8, n' (r + 1 : Nat)), (9, eInts (plays v' 0 (c0 :: cs))), (10, n' q)])
          (fun q => rsT b cs.length (mid (outR b (c0 :: cs) (plays v 0 (c0 :: cs)) R r) (plays v' 0 (c0 :: cs)) q) ++ d11) (fun _ => True) (plays v' 0 (c0 :: cs)).length 26 (leb rfl) trivial ?_ ?_ ?_)
        · exact ⟨⟨_, rfl, Weak.refl _ _, under_eInts _ _⟩, ⟨_, rfl, Weak.refl _ _, under_eInts _ _⟩, ⟨_, rfl, Weak.refl _ _, ltb rfl⟩, ⟨_, rfl, Weak.refl _ _, ltb rfl⟩, ⟨_, rfl, Weak.refl _ _, trivial⟩, ⟨_, rfl, Weak.refl _ _, under_eInts _ _⟩, ⟨_, rfl, Weak.refl _ _, trivial⟩, trivial⟩
        · exact ⟨⟨rfl, ltb rfl⟩, ⟨rfl, ltb rfl⟩, ⟨rfl, ltb rfl⟩, ⟨rfl, ltb rfl⟩, ⟨rfl, ltb rfl⟩, ⟨rfl, ltb rfl⟩, ⟨rfl, ltb rfl⟩, ⟨rfl, ltb rfl⟩, ⟨rfl, ltb rfl⟩, ⟨rfl, ltb rfl⟩, ⟨rfl, ltb rfl⟩, ⟨rfl, ltb rfl⟩, ⟨rfl, ltb rfl⟩, trivial⟩
        · intro q hq _
          have hpl2 : (plays v' 0 (c0 :: cs)).length = cs.length + 1 := by rw [plays_length]; rfl
          refine If.mk (fun h3 => ?_) (fun h3 => ?_)
          · refine IfB.mk (fun _ => ?_) (fun e => by cases e)
            have h3' : (q : Int) < (cs.length + 1 : Nat) := h3
            obtain ⟨y, hy, _, _⟩ := at_some (l := plays v' 0 (c0 :: cs)) (r := q) (by omega)
            obtain ⟨x, hx, _, _⟩ := at_some (l := outR b (c0 :: cs) (plays v 0 (c0 :: cs)) R r) (r := q) (by omega)
            have hm := mid_at hol2 hx
            refine Ex.mk _ (jx_ints (r := q) rfl hy) ?_
            refine Ex.mk _ rfl ?_
            refine Ex.mk _ (ix_msl (r := q) rfl (by omega)) ?_
            refine Ex.mk _ (load_mptr rfl (load_int hm)) ?_
            refine If.mk (fun h4 => ?_) (fun h4 => ?_)
            · refine IfB.mk (fun e => by cases e) (fun _ => ?_)
              refine Side.mk (fits64 (by omega)) ?_
              subst h4
              refine ⟨leb rfl, rfl, by omega, trivial, ⟨⟨_, rfl, Weak.refl _ _, under_eInts _ _⟩, ⟨_, rfl, Weak.refl _ _, under_eInts _ _⟩, ⟨_, rfl, Weak.refl _ _, ltb rfl⟩, ⟨_, rfl, Weak.refl _ _, ltb rfl⟩, ⟨_, rfl, Weak.refl _ _, trivial⟩, ⟨_, rfl, Weak.refl _ _, under_eInts _ _⟩, ⟨_, rfl, Weak.refl _ _, trivial⟩, trivial⟩, ⟨⟨rfl, ltb rfl⟩, ⟨?_, ltb rfl⟩, ⟨rfl, ltb rfl⟩, ⟨rfl, ltb rfl⟩, ⟨rfl, ltb rfl⟩, ⟨rfl, ltb rfl⟩, ⟨rfl, ltb rfl⟩, ⟨rfl, ltb rfl⟩, ⟨rfl, ltb rfl⟩, ⟨rfl, ltb rfl⟩, ⟨rfl, ltb rfl⟩, ⟨rfl, ltb rfl⟩, ⟨rfl, ltb rfl⟩, trivial⟩, trivial⟩
              rw [mid_same hol2 hx hy]
              rfl
            · refine IfB.mk (fun _ => ?_) (fun e => by cases e)
              refine Ex.mk _ (ix_msl (r := q) rfl (by omega)) ?_
              refine Ex.mk (DR.val (.lit undef) (.set 26 (.mrow cs.length ((mid (outR b (c0 :: cs) (plays v 0 (c0 :: cs)) R r) (plays v' 0 (c0 :: cs)) (q + 1)).map n')))) ?_ ?_
              · refine aop_store (t := 3) rfl rfl rfl ?_
                rw [mid_split hol2 hx hy, if_neg (fun e => h4 e.symm)]
                exact store_mptr rfl (by rw [mid_length hol2 (by omega)]; omega)
              · refine Side.mk (fits64 (by omega)) ?_
                exact ⟨leb rfl, rfl, by omega, trivial, ⟨⟨_, rfl, Weak.refl _ _, under_eInts _ _⟩, ⟨_, rfl, Weak.refl _ _, under_eInts _ _⟩, ⟨_, rfl, Weak.refl _ _, ltb rfl⟩, ⟨_, rfl, Weak.refl _ _, ltb rfl⟩, ⟨_, rfl, Weak.refl _ _, trivial⟩, ⟨_, rfl, Weak.refl _ _, under_eInts _ _⟩, ⟨_, rfl, Weak.refl _ _, trivial⟩, trivial⟩, ⟨⟨rfl, ltb rfl⟩, ⟨rfl, ltb rfl⟩, ⟨rfl, ltb rfl⟩, ⟨rfl, ltb rfl⟩, ⟨rfl, ltb rfl⟩, ⟨rfl, ltb rfl⟩, ⟨rfl, ltb rfl⟩, ⟨rfl, ltb rfl⟩, ⟨rfl, ltb rfl⟩, ⟨rfl, ltb rfl⟩, ⟨rfl, ltb rfl⟩, ⟨rfl, ltb rfl⟩, ⟨rfl, ltb rfl⟩, trivial⟩, ⟨_, rfl, under_ints _ _⟩, ⟨_, rfl, trivial⟩, ⟨_, rfl, trivial⟩, ⟨_, rfl, trivial⟩, ⟨_, rfl, trivial⟩, ⟨_, rfl, trivial⟩, ⟨_, rfl, trivial⟩, ⟨_, rfl, trivial⟩, ⟨_, rfl, trivial⟩, ⟨_, rfl, trivial⟩, ⟨_, rfl, trivial⟩, ⟨_, rfl, trivial⟩, trivial⟩
          · refine IfB.mk (fun e => by cases e) (fun _ => ?_)
            refine ⟨leb rfl, ?_⟩
            have h3' : ¬ ((q : Int) < (cs.length + 1 : Nat)) := h3
            refine Side.mk (fits64 (by omega)) ?_
            have hme := mid_end hol2 (q := q) (by omega)
            have hou := outR_succ (b := b) (cues := c0 :: cs) (o := plays v 0 (c0 :: cs)) hj1
            rw [hpl'] at hou
            refine ⟨leb rfl, rfl, by omega, trivial, ⟨⟨_, rfl, Weak.refl _ _, under_eInts _ _⟩, ⟨_, rfl, Weak.refl _ _, under_eInts _ _⟩, ⟨_, rfl, Weak.refl _ _, ltb rfl⟩, ⟨_, rfl, Weak.refl _ _, ltb rfl⟩, ⟨_, rfl, Weak.refl _ _, trivial⟩, trivial⟩, ⟨⟨rfl, ltb rfl⟩, ⟨?_, ltb rfl⟩, trivial⟩, ⟨_, rfl, under_ints _ _⟩, trivial⟩
            rw [hou, ← hme]
            rfl
      · refine IfB.mk (fun e => by cases e) (fun _ => ?_)
        have h2' : ¬ (((r + 1 : Nat) : Int) < (((i :: R).length : Nat) : Int)) := h2
        rw [List.length_cons] at h2'
        have er : r = R.length := by omega
        subst er
        have hos : outR b (c0 :: cs) (plays v 0 (c0 :: cs)) R R.length = sureL b (c0 :: cs) (i :: R) := by
          show (R.take R.length).foldl _ _ = R.foldl _ (plOf b (c0 :: cs) i)
          rw [List.take_length, hpl]
        refine ⟨leb rfl, .inl rfl, FinG.mk _ rfl rfl ?_⟩
        show freezeRow (get (ofL (rsT b cs.length (outR b (c0 :: cs) (plays v 0 (c0 :: cs)) R R.length)))) 26 cs.length (cs.length + 1) 1 = _
        have hll : (outR b (c0 :: cs) (plays v 0 (c0 :: cs)) R R.length).length = cs.length + 1 := hol
        rw [← hll, freezeRow_ints rfl, hos]

set_option maxRecDepth 100000 in
theorem c_refSure0 {b : Book} (hB : BOk b) {i : Int} {R : List Int} (hmem : ∀ j ∈ i :: R, 0 ≤ j ∧ j < b.vs.length) (hlen : (i :: R).length ≤ b.vs.length) (H : List Blk) :
    ACall Tryz.prog 42 [eBook b, eInts (i :: R), eInts []] H (.ret (eInts [])) H := by
  have hvl := hB.1.2.2
  unfold inI at hvl
  refine fn_rule (m := false) (fn := Tryz.f42) (c := (Tryz.f42.body).getD .skip) mixed (by kernel_rfl) (by kernel_rfl) (of_decide_eq_true (by kernel_rfl)) ?_ ?_ ?_ H
  · exact ⟨under_eBook 0 _, under_eInts 0 _, under_eInts 0 _, trivial⟩
  · exact under_eInts 0 _
  · obtain ⟨v, hv, hpl, hvo, h0⟩ := pl_at hB (cues := []) (hmem i (by simp))
    refine Ex.mk _ (jx_ints (r := 0) rfl rfl) ?_
    refine Ex.mk _ rfl ?_
    refine Ex.mk _ (jx_versions (r := i.toNat) (by have := hmem i (by simp); omega) hv) ?_
    refine Ex.mk _ rfl ?_
    refine CallG.pure _ (c_refPlays (cues := []) hvo h0 (fun c h => by cases h) (by simp)) ?_
    refine LoopG.at (n0 := 11) rfl (loop_up mixed (m := false) (fun r => [(1, eInts (i :: R)), (2, eInts []), (3, .ptr 0 0), (7, eInts []), (8, n' (r + 1 : Nat))]) (fun _ => [(0, bBox b)]) (fun _ => True) R.length 11 (leb rfl) trivial ?_ ?_ ?_)
    · exact ⟨⟨_, rfl, Weak.refl _ _, under_eInts _ _⟩, ⟨_, rfl, Weak.refl _ _, under_eInts _ _⟩, ⟨_, rfl, Weak.refl _ _, ltb rfl⟩, ⟨_, rfl, Weak.refl _ _, under_eInts _ _⟩, ⟨_, rfl, Weak.refl _ _, trivial⟩, trivial⟩
    · exact ⟨⟨rfl, ltb rfl⟩, trivial⟩
    · intro r hr _
      refine If.mk (fun h1 => ?_) (fun h1 => ?_)
      · refine IfB.mk (fun _ => ?_) (fun e => by cases e)
        have h2' : ((r + 1 : Nat) : Int) < (((i :: R).length : Nat) : Int) := h1
        rw [List.length_cons] at h2'
        obtain ⟨j, hj1, _, hj3⟩ := at_some (l := R) (r := r) (by omega)
        obtain ⟨v', hv', hpl', hvo', h0'⟩ := pl_at hB (cues := []) (hmem j (by simp [hj3]))
        refine Ex.mk _ (jx_ints (l := i :: R) (r := r + 1) rfl hj1) ?_
        refine Ex.mk _ rfl ?_
        refine Ex.mk _ (jx_versions (r := j.toNat) (by have := hmem j (by simp [hj3]); omega) hv') ?_
        refine Ex.mk _ rfl ?_
        refine CallG.pure _ (c_refPlays (cues := []) hvo' h0' (fun c h => by cases h) (by simp)) ?_
        refine LoopG.round (m := false) mixed ?_
        refine If.mk (fun h => absurd h ((show ¬ ((0 : Int) < 0) by omega))) (fun _ => ?_)
        refine IfB.mk (fun e => by cases e) (fun _ => ?_)
        refine Side.mk (fits64 (by omega)) ?_
        exact ⟨leb rfl, rfl, by omega, trivial, ⟨⟨_, rfl, Weak.refl _ _, under_eInts _ _⟩, ⟨_, rfl, Weak.refl _ _, under_eInts _ _⟩, ⟨_, rfl, Weak.refl _ _, ltb rfl⟩, ⟨_, rfl, Weak.refl _ _, under_eInts _ _⟩, ⟨_, rfl, Weak.refl _ _, trivial⟩, trivial⟩, ⟨⟨rfl, ltb rfl⟩, trivial⟩, trivial⟩
      · refine IfB.mk (fun e => by cases e) (fun _ => ?_)
        refine ⟨leb rfl, .inl rfl, FinG.mk _ rfl rfl ?_⟩
        rfl

/-- What the document's Sure returns. -/
theorem c_refSure {b : Book} (hB : BOk b) {cues : List Int} (hC : LList b cues) {L : List Int} (hL : L ≠ []) (hmem : ∀ j ∈ L, 0 ≤ j ∧ j < b.vs.length) (hlen : L.length ≤ b.vs.length) (H : List Blk) :
    ACall Tryz.prog 42 [eBook b, eInts L, eInts cues] H (.ret (eInts (sureL b cues L))) H := by
  cases L with
  | nil => exact absurd rfl hL
  | cons i R =>
    cases cues with
    | nil =>
      have := c_refSure0 hB hmem hlen H
      rw [sureL_nil]; exact this
    | cons c0 cs => exact c_refSure1 hB hC hmem hlen H
end Go.Vm

/-
  Contracts: left, Sure: the errors. (Own work.)
-/
namespace Go.Vm
open Go.Proofs

def nilS2 (k : Int) : AV := .tup [.lit (.slice none 0 0), .lit (.int .i64 k)]

set_option maxRecDepth 100000 in
/-- Nobody is left. -/
theorem c_left_none {b : Book} (hl : BLen b) (hB : BOk b) {evs : List Evening} (hE : EvsOk b evs) {now : Evening} (hN : EvOk b now) (hne : remL b.vs (evs ++ [now]) b.vs.length = []) (H : List Blk) :
    ACall Tryz.prog 99 [eBook b, .lit (.bool true), eEvenings evs, eEvening now] H (.ret (nilS2 7)) H := by
  have hel := hE.2
  obtain ⟨⟨⟨hn1, hn2⟩, ⟨hn3, hn4⟩⟩, hn5⟩ := hN
  refine fn_rule (m := false) (fn := Tryz.f99) (c := (Tryz.f99.body).getD .skip) mixed (by kernel_rfl) (by kernel_rfl) (of_decide_eq_true (by kernel_rfl)) ?_ ?_ ?_ H
  · exact ⟨under_eBook 0 _, trivial, under_eEvenings 0 _, under_eEvening 0 _, trivial⟩
  · exact under_tup2 trivial trivial
  · refine CallG.bool (c_isBook hl) (fun _ => ?_) (fun x => absurd hB x)
    refine CallG.bool (c_areEvenings hB.fit _ (by omega) (fun e he => ?_)) (fun _ => ?_) (fun x => absurd hE x)
    · obtain ⟨⟨⟨g1, _⟩, ⟨_, g2⟩⟩, _⟩ := hE.1 e he
      omega
    · refine CallG.bool (c_isEvening hB.fit now (by omega) (by omega)) (fun _ => ?_) (fun x => absurd ⟨⟨⟨hn1, hn2⟩, ⟨hn3, hn4⟩⟩, hn5⟩ x)
      refine IfB.mk (fun e => by cases e) (fun _ => ?_)
      refine CallG.try rfl rfl ?_
      refine CallG.inlineP (m := false) (fn := Tryz.f158) (c := (Tryz.f158.body).getD .skip) mixed (by kernel_rfl) (by kernel_rfl) (of_decide_eq_true (by kernel_rfl)) ?_
      refine CallG.clone (by omega) (leb rfl) ?_
      refine ex_app _ _ (app_evening (flat2_length (fun _ => rfl) _) (by omega) rfl) ?_
      refine CallG.inlineP (m := false) (fn := Tryz.f159) (c := (Tryz.f159.body).getD .skip) mixed (by kernel_rfl) (by kernel_rfl) (of_decide_eq_true (by kernel_rfl)) ?_
      refine CallG.weak _ (.cons (fun H => WeakH.refl _ H) (.cons wk_evs .nil)) (c_remains hB (fun e he => ?_) (by rw [List.length_append]; simp; omega)) ?_
      · rcases List.mem_append.1 he with he | he
        · exact hE.1 e he
        · rw [List.mem_singleton] at he; subst he; exact ⟨⟨⟨hn1, hn2⟩, ⟨hn3, hn4⟩⟩, hn5⟩
      · rw [hne]
        refine If.mk (fun _ => ?_) (fun h => absurd (by decide) h)
        refine IfB.mk (fun _ => ?_) (fun e => by cases e)
        refine .inr ⟨_, rfl, rfl, ?_⟩
        refine .inr ⟨_, rfl, rfl, ?_⟩
        refine ⟨⟨_, rfl⟩, ⟨_, rfl⟩, ?_⟩
        refine If.mk (fun h => absurd h (by decide)) (fun _ => ?_)
        refine IfB.mk (fun _ => ?_) (fun e => by cases e)
        exact ⟨.inl rfl, FinG.mk _ rfl rfl rfl⟩

set_option maxRecDepth 100000 in
theorem c_left_bad {b : Book} (hl : BLen b) {fine : Bool} {evs : List Evening} (he1 : evs.length < 4611686018427387904) (he2 : ∀ e ∈ evs, e.1.length < 4611686018427387904 ∧ e.2.length < 4611686018427387904) {now : Evening} (hn1 : now.1.length < 4611686018427387904)
    (hn2 : now.2.length < 4611686018427387904) (hN : ¬ (BOk b ∧ EvsOk b evs ∧ EvOk b now ∧ fine = true)) (H : List Blk) :
    ACall Tryz.prog 99 [eBook b, .lit (.bool fine), eEvenings evs, eEvening now] H (.ret (nilS2 2)) H := by
  refine fn_rule (m := false) (fn := Tryz.f99) (c := (Tryz.f99.body).getD .skip) mixed (by kernel_rfl) (by kernel_rfl) (of_decide_eq_true (by kernel_rfl)) ?_ ?_ ?_ H
  · exact ⟨under_eBook 0 _, trivial, under_eEvenings 0 _, under_eEvening 0 _, trivial⟩
  · exact under_tup2 trivial trivial
  · refine CallG.bool (c_isBook hl) (fun hB => ?_) (fun _ => ?_)
    · refine CallG.bool (c_areEvenings hB.fit _ he1 he2) (fun hE => ?_) (fun _ => ?_)
      · refine CallG.bool (c_isEvening hB.fit now hn1 hn2) (fun hE2 => ?_) (fun _ => ?_)
        · cases fine with
          | true => exact absurd ⟨hB, hE, hE2, rfl⟩ hN
          | false =>
            refine IfB.mk (fun _ => ?_) (fun e => by cases e)
            exact ⟨.inl rfl, FinG.mk _ rfl rfl rfl⟩
        · refine IfB.mk (fun _ => ?_) (fun e => by cases e)
          exact ⟨.inl rfl, FinG.mk _ rfl rfl rfl⟩
      · refine IfB.mk (fun _ => ?_) (fun e => by cases e)
        exact ⟨.inl rfl, FinG.mk _ rfl rfl rfl⟩
    · refine IfB.mk (fun _ => ?_) (fun e => by cases e)
      exact ⟨.inl rfl, FinG.mk _ rfl rfl rfl⟩

set_option maxRecDepth 100000 in
theorem c_sure_none {b : Book} (hl : BLen b) (hB : BOk b) {evs : List Evening} (hE : EvsOk b evs) {cues : List Int} (hC : LList b cues) (hne : remL b.vs (evs ++ [([], [])]) b.vs.length = []) (H : List Blk) :
    ACall Tryz.prog 38 [eBook b, eEvenings evs, eInts cues] H (.ret (nilS2 7)) H := by
  have hcl := hC.1
  refine fn_rule (m := false) (fn := Tryz.f38) (c := (Tryz.f38.body).getD .skip) mixed (by kernel_rfl) (by kernel_rfl) (of_decide_eq_true (by kernel_rfl)) ?_ ?_ ?_ H
  · exact ⟨under_eBook 0 _, under_eEvenings 0 _, under_eInts 0 _, trivial⟩
  · exact under_tup2 trivial trivial
  · refine CallG.bool (c_isBook hl) (fun _ => ?_) (fun x => absurd hB x)
    refine CallG.bool (c_areCues hB.fit _ (by omega)) (fun _ => ?_) (fun x => absurd hC x)
    have hN : EvOk b ([], []) := ⟨⟨⟨(by simp), fun c h => (by cases h)⟩, ⟨fun c h => (by cases h), (by simp)⟩⟩, rfl⟩
    refine CallG.weak _ (.cons (fun H => WeakH.refl _ H) (.cons (fun H => WeakH.refl _ H) (.cons (fun H => WeakH.refl _ H) (.cons wk_ev0 .nil)))) (c_left_none hl hB hE hN hne) ?_
    refine If.mk (fun h => absurd h (by decide)) (fun _ => ?_)
    refine IfB.mk (fun _ => ?_) (fun e => by cases e)
    exact ⟨.inl rfl, FinG.mk _ rfl rfl rfl⟩

set_option maxRecDepth 100000 in
theorem c_sure_bad {b : Book} (hl : BLen b) {evs : List Evening} (he1 : evs.length < 4611686018427387904) (he2 : ∀ e ∈ evs, e.1.length < 4611686018427387904 ∧ e.2.length < 4611686018427387904) {cues : List Int} (hc : cues.length < 4611686018427387904)
    (hN : ¬ (BOk b ∧ EvsOk b evs ∧ LList b cues)) (H : List Blk) : ACall Tryz.prog 38 [eBook b, eEvenings evs, eInts cues] H (.ret (nilS2 2)) H := by
  refine fn_rule (m := false) (fn := Tryz.f38) (c := (Tryz.f38.body).getD .skip) mixed (by kernel_rfl) (by kernel_rfl) (of_decide_eq_true (by kernel_rfl)) ?_ ?_ ?_ H
  · exact ⟨under_eBook 0 _, under_eEvenings 0 _, under_eInts 0 _, trivial⟩
  · exact under_tup2 trivial trivial
  · skip
    refine CallG.bool (c_isBook hl) (fun hB => ?_) (fun hB => ?_)
    · refine CallG.bool (c_areCues hB.fit _ hc) (fun hC => ?_) (fun hC => ?_)
      · refine CallG.weak _ (.cons (fun H => WeakH.refl _ H) (.cons (fun H => WeakH.refl _ H) (.cons (fun H => WeakH.refl _ H) (.cons wk_ev0 .nil)))) (c_left_bad hl he1 he2 (by simp) (by simp) (fun x => hN ⟨x.1, x.2.1, hC⟩)) ?_
        refine If.mk (fun h => absurd h (by decide)) (fun _ => ?_)
        refine IfB.mk (fun _ => ?_) (fun e => by cases e)
        exact ⟨.inl rfl, FinG.mk _ rfl rfl rfl⟩
      · refine CallG.weak _ (.cons (fun H => WeakH.refl _ H) (.cons (fun H => WeakH.refl _ H) (.cons (fun H => WeakH.refl _ H) (.cons wk_ev0 .nil)))) (c_left_bad hl he1 he2 (by simp) (by simp) (fun x => by cases x.2.2.2)) ?_
        refine If.mk (fun h => absurd h (by decide)) (fun _ => ?_)
        refine IfB.mk (fun _ => ?_) (fun e => by cases e)
        exact ⟨.inl rfl, FinG.mk _ rfl rfl rfl⟩
    · refine CallG.weak _ (.cons (fun H => WeakH.refl _ H) (.cons (fun H => WeakH.refl _ H) (.cons (fun H => WeakH.refl _ H) (.cons wk_ev0 .nil)))) (c_left_bad hl he1 he2 (by simp) (by simp) (fun x => hB x.1)) ?_
      refine If.mk (fun h => absurd h (by decide)) (fun _ => ?_)
      refine IfB.mk (fun _ => ?_) (fun e => by cases e)
      exact ⟨.inl rfl, FinG.mk _ rfl rfl rfl⟩
end Go.Vm
