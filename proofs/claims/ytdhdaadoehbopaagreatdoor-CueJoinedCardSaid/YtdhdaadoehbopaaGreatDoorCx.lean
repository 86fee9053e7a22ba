/-
  Whether versions play alike after a list, for books and lists as told at each, in every heap. Conditions: at each theorem.
-/
import Derived.Test.YtdhdaadoehbopaaGreatDoorCt
import Derived.Test.YtdhdaadoehbopaaGreatDoorCv
import Derived.Test.YtdhdaadoehbopaaGreatDoorCa

namespace Go.Vm
open Go.Proofs
theorem VOk.tunesT {b : Book} {v : Vers} (h : VOk b v) : ∀ st ∈ v, ∀ m ∈ st, 0 ≤ m.2 ∧ m.2 < b.tunes := fun st hst m hm => by
 have := (h.1 st hst).2 m hm
 unfold inI at this
 omega
theorem VOk.begin {b : Book} {v : Vers} (hb : 0 ≤ b.cues) (h : VOk b v) {s : Int} (hs : 0 ≤ s ∧ s < v.length) : VOk b (begunV v s) := by
 obtain ⟨hv, h0⟩ := h.vers
 have h1 := begun_ok hv hs
 have h2 := begun_tunes h.tunesT hs
 refine ⟨fun st hst => ⟨?_, fun m hm => ?_⟩, ?_⟩
 ·have := (h1 st hst).1
  omega
 ·have h3 := (h1 st hst).2 m hm
  have h4 := h2 st hst m hm
  rw [begun_length] at h3 ⊢
  unfold inI
  omega
 ·rw [begun_length]; exact h.2
theorem app_vers {g : Nat → Option Blk} {n len id gen : Nat} {cells : List AV} {x : AV} (h1 : cells.length = len) (h2 : len < 2097152) (hg : g id = some (.row gen)) (ho : x.one = true) :
  appT Tryz.prog false g n 22 22 (.sl len cells (.own id gen 1)) (.sl 1 [x] .full) = some (.sl (len + 1) (cells ++ [x]) (.own id (gen + 1) 1), .set id (.row (gen + 1))) :=
 appT_own (e := 32) (bytes := 24) (z := .agg #[.slice none 0 0]) (by kernel_rfl) (by kernel_rfl) (by kernel_rfl) (by kernel_rfl) (by kernel_rfl) rfl (by omega) (by omega) (by omega) hg (by simp [ho])
theorem dT_nil {v w : Vers} {K i j : Nat} (hv : VersOk v K) (hw : VersOk w K) (hi : i < v.length) (hj : j < w.length) : dT v w K i j = [] ↔ ∀ u, OkL K u → ¬ Tells v w i j u := by
 obtain ⟨h1, h2⟩ := dT_ok hv hw hi hj
 exact ⟨h2, fun h => Classical.byContradiction fun hne => h _ (h1 hne).1 (h1 hne).2.1⟩
theorem turn_self (s : Nat) : turnI (s : Int) (s : Int) = 0 := by
 unfold turnI
 split
 ·assumption
 ·rw [if_pos rfl]
theorem begun_play {v : Vers} {k s : Nat} (hv : VersOk v k) (hs : s < v.length) {l : List Int} (hl : CuesOk k l) : plays (begunV v (s : Int)) 0 l = plays v s l := by
 have := begun_plays (s := (s : Int)) hv ⟨by omega, by omega⟩ l s hl hs
 rwa [turn_self] at this
theorem dT_begun {v w : Vers} {K i j : Nat} (hv : VersOk v K) (hw : VersOk w K) (hi : i < v.length) (hj : j < w.length) : dT (begunV v (i : Int)) (begunV w (j : Int)) K 0 0 = [] ↔ dT v w K i j = [] := by
 rw [dT_nil hv hw hi hj, dT_nil (begun_ok hv ⟨by omega, by omega⟩) (begun_ok hw ⟨by omega, by omega⟩) (by rw [begun_length]; omega) (by rw [begun_length]; omega)]
 have e : ∀ u, OkL K u → (Tells (begunV v (i : Int)) (begunV w (j : Int)) 0 0 u ↔ Tells v w i j u) := fun u hu => by
  unfold Tells
  rw [begun_play hv hi (cuesI_ok hu), begun_play hw hj (cuesI_ok hu)]
 exact ⟨fun h u hu ht => h u hu ((e u hu).2 ht), fun h u hu ht => h u hu ((e u hu).1 ht)⟩
def tgV (vs : List Vers) (u : List Nat) (n : Int) : Vers := begunV (vAt vs n.toNat) ((aftN vs n u : Nat) : Int)
def tgB (b : Book) (L : List Int) (u : List Nat) : Book := ⟨b.cues, b.tunes, L.map (tgV b.vs u)⟩
def tgD (vs : List Vers) (K : Nat) (L : List Int) (u : List Nat) (i : Nat) : List Nat := dT (tgV vs u (lAt L 0)) (tgV vs u (lAt L i)) K 0 0
def sameT (vs : List Vers) (K : Nat) (L : List Int) (u : List Nat) (k : Nat) : Bool := decide (∀ i, i < k → tgD vs K L u (i + 1) = [])
set_option maxHeartbeats 4000000 in
set_option maxRecDepth 100000 in
theorem c_together {b : Book} (hB : BOk b) {L : List Int} (hL : LeftOk b.vs L) (hne : L ≠ []) {u : List Nat} (hu : OkL b.cues.toNat u) (hlen : u.length < 1000000) (H : List Blk) :
  ACall Tryz.prog 64 [eBook b, eInts L, eInts (cuesI u)] H (.ret (.tup [nb (sameT b.vs b.cues.toNat L u (L.length - 1)), nb true])) H := by
 have hbc := hB.1.1
 have hvn := hB.1.2.2
 have hfew := hL.few
 have hpos : 0 < L.length := List.length_pos_iff.2 hne
 unfold inI at hbc hvn
 have hv : ∀ v ∈ b.vs, VersOk v b.cues.toNat := fun v hv => (hB.2 v hv).vers.1
 have hv0 : ∀ v ∈ b.vs, 0 < v.length := fun v hv => (hB.2 v hv).vers.2
 have hs : ∀ v ∈ b.vs, v.length ≤ 4 := fun v hv => by have := (hB.2 v hv).2; unfold inI at this; omega
 have hcu := cuesI_length u
 have hat : ∀ n ∈ L, (0 : Int) ≤ (aftN b.vs n u : Nat) ∧ ((aftN b.vs n u : Nat) : Int) < (vAt b.vs n.toNat).length := fun n hn => by
  have hm := hL.mem n hn
  have hvm := vAt_in (vs := b.vs) (a := n.toNat) (by omega)
  have := after_lt (hv _ hvm) (cuesI_ok hu) (hv0 _ hvm)
  unfold aftN
  exact ⟨by omega, by show ((after (vAt b.vs n.toNat) 0 (cuesI u) : Nat) : Int) < _; omega⟩
 have hVx : ∀ w ∈ L.map (tgV b.vs u), VOk b w := fun w hw => by
  obtain ⟨n, hn, rfl⟩ := List.mem_map.1 hw
  have hm := hL.mem n hn
  exact (hB.2 _ (vAt_in (by omega))).begin (by omega) (hat n hn)
 have hBx : BOk (tgB b L u) := ⟨⟨hB.1.1, hB.1.2.1, by show inI ((L.map (tgV b.vs u)).length : Int) 1 4; rw [List.length_map]; unfold inI; omega⟩, hVx⟩
 have hLx : BLen (tgB b L u) := by
  refine ⟨by show (L.map (tgV b.vs u)).length < _; rw [List.length_map]; omega, fun w hw => ?_⟩
  obtain ⟨g1, g2, g3⟩ := hVx w hw
  refine ⟨by omega, fun st hst => ?_⟩
  have g4 : (st.length : Int) = b.cues := (g1 st hst).1
  omega
 have hVl : (L.map (tgV b.vs u)).length = L.length := List.length_map _
 have hVat : ∀ i, i < L.length → (L.map (tgV b.vs u))[i]? = some (tgV b.vs u (lAt L i)) := fun i hi => by rw [List.getElem?_map, lAt_get hi]; rfl
 refine fn_rule (m := false) (fn := Tryz.f64) (c := (Tryz.f64.body).getD .skip) mixed (by kernel_rfl) (by kernel_rfl) (of_decide_eq_true (by kernel_rfl)) ?_ ?_ ?_ H
 ·exact ⟨under_eBook 0 _, under_eInts 0 _, under_eInts 0 _, trivial⟩
 ·exact ⟨trivial, trivial, trivial⟩
 ·refine LoopG.ghost (LoopG.at (n0 := 3) rfl (LoopG.box 1 [n' b.cues, n' b.tunes, .sl 0 [] (.own 2 0 1)] 1 (leb rfl) (leb rfl) rfl (.cons (Weak.refl _ _) (.cons (Weak.refl _ _) (.cons (Weak.own (r := 2) (g := 0) 1 rfl) (.nil _)))) ?_))
  refine loop_up mixed (m := false) (fun r => [(1, eInts L), (2, eInts (cuesI u)), (3, .ptr 0 0), (8, .ptr 1 0), (9, n' r)]) (fun r => [(0, bBox b), (1, .box [n' b.cues, n' b.tunes, .sl r (((L.take r).map (tgV b.vs u)).map eStates) (.own 2 r 1)] 24), (2, .row r)]) (fun _ => True) L.length 1 (leb rfl) trivial ?_ ?_ ?_
  ·exact ⟨⟨_, rfl, Weak.refl _ _, under_eInts _ _⟩, ⟨_, rfl, Weak.refl _ _, under_eInts _ _⟩, wp rfl (ltb rfl), wp rfl (ltb rfl), wp rfl trivial, trivial⟩
  ·exact ⟨bk rfl rfl, bk rfl rfl, bk rfl rfl, trivial⟩
  ·intro r hr _
   refine If.mk (fun h1 => ?_) (fun h1 => ?_)
   ·refine ifY ?_
    have hrL : r < L.length := by omega
    have hn := lAt_mem hrL
    have hm := hL.mem _ hn
    have hvm := vAt_in (vs := b.vs) (a := (lAt L r).toNat) (by omega)
    refine Ex.mk _ (jx_ints (r := r) rfl (lAt_get hrL)) ?_
    refine Ex.mk _ rfl ?_
    refine Ex.mk _ (jx_versions (r := (lAt L r).toNat) (by omega) (vAt_at (by omega))) ?_
    refine Ex.mk _ rfl ?_
    refine CallG.pure _ (c_after (hv _ hvm) (hv0 _ hvm) (cuesI_ok hu) (by omega)) ?_
    have hvl := hs _ hvm
    refine CallG.pure _ (c_begun (v := vAt b.vs (lAt L r).toNat) (s := (aftN b.vs (lAt L r) u : Nat)) (hat _ hn) (by omega) (fun st hst => by have := (hv _ hvm st hst).1; omega)) ?_
    refine ex_app _ _ (app_vers (by rw [List.length_map, List.length_map, List.length_take]; omega) (by omega) rfl rfl) ?_
    refine Side.mk (fits64 (by omega)) ?_
    have etk : (((L.take r).map (tgV b.vs u)).map eStates) ++ [eStates (tgV b.vs u (lAt L r))] = ((L.take (r + 1)).map (tgV b.vs u)).map eStates := by
     rw [List.take_add_one, lAt_get hrL]
     simp
    refine ⟨leb rfl, rfl, by omega, trivial, ⟨⟨_, rfl, Weak.refl _ _, under_eInts _ _⟩, ⟨_, rfl, Weak.refl _ _, under_eInts _ _⟩, wp rfl (ltb rfl), wp rfl (ltb rfl), wp rfl trivial, trivial⟩, ⟨bk rfl rfl, ⟨?_, ltb rfl⟩, bk rfl rfl, trivial⟩, ?_⟩
    ·rw [← etk]
     rfl
    ·exact ⟨⟨_, rfl, trivial, trivial, ⟨unders_append (unders_map (under_states _) _) ⟨under_states _ _, trivial⟩, ltb rfl⟩, trivial⟩, ⟨_, rfl, trivial⟩, trivial⟩
   ·refine ifN ?_
    refine ⟨leb rfl, ?_⟩
    have er : r = L.length := by omega
    subst er
    have eall : eVersions (L.map (tgV b.vs u)) = .sl L.length (((L.take L.length).map (tgV b.vs u)).map eStates) .unk := by
     rw [List.take_length]
     unfold eVersions
     rw [List.length_map]
    refine LoopG.at (n0 := 3) rfl (LoopG.box 1 [n' b.cues, n' b.tunes, eVersions (L.map (tgV b.vs u))] 1 (leb rfl) (leb rfl) rfl (.cons (Weak.refl _ _) (.cons (Weak.refl _ _) (.cons (by rw [eall]; exact Weak.tail _ _ _ _) (.nil _)))) ?_)
    refine loop_up mixed (m := false) (fun k => [(1, eInts L), (2, eInts (cuesI u)), (3, .ptr 0 0), (8, .ptr 1 0), (11, nb (sameT b.vs b.cues.toNat L u k)), (12, n' (k + 1 : Nat))]) (fun _ => [(0, bBox b), (1, bBox (tgB b L u))]) (fun _ => True) (L.length - 1) 1 (leb rfl) trivial ?_ ?_ ?_
    ·exact ⟨⟨_, rfl, Weak.refl _ _, under_eInts _ _⟩, ⟨_, rfl, Weak.refl _ _, under_eInts _ _⟩, wp rfl (ltb rfl), wp rfl (ltb rfl), ⟨_, rfl, Weak.of_eq (congrArg nb (decide_eq_true (fun i hi => absurd hi (by omega))).symm), trivial⟩, wp rfl trivial, trivial⟩
    ·exact ⟨bk rfl rfl, bk rfl rfl, trivial⟩
    ·intro k hk _
     generalize hsk : sameT b.vs b.cues.toNat L u k = sk
     refine If.mk (fun h2 => ?_) (fun h2 => ?_)
     ·refine ifY ?_
      have hk1 : k + 1 < L.length := by have : ((k + 1 : Nat) : Int) < (L.length : Nat) := h2; omega
      have hstep : sameT b.vs b.cues.toNat L u (k + 1) = (sameT b.vs b.cues.toNat L u k && decide (tgD b.vs b.cues.toNat L u (k + 1) = [])) := by
       unfold sameT
       rw [← Bool.decide_and]
       refine decide_eq_decide.2 ⟨fun h => ⟨fun i hi => h i (by omega), h k (by omega)⟩, fun h i hi => ?_⟩
       rcases Nat.lt_or_ge i k with h3 | h3
       ·exact h.1 i h3
       ·obtain rfl : i = k := by omega
        exact h.2
      rw [hsk] at hstep
      have hlx : (tgB b L u).vs.length = L.length := hVl
      have hc := fun H => c_tellD (i := 0) (j := ((k + 1 : Nat) : Int)) hLx hBx (by rw [hlx]; unfold inI; omega) (by rw [hlx]; unfold inI; omega) (hVat 0 hpos) (by rw [Int.toNat_natCast]; exact hVat (k + 1) hk1) H
      have hc : ∀ H, ACall Tryz.prog 50 [eBook (tgB b L u), n' 0, n' ((k + 1 : Nat) : Int)] H (.ret (tellV (tellO (tgD b.vs b.cues.toNat L u (k + 1))))) H := hc
      generalize tgD b.vs b.cues.toNat L u (k + 1) = D at hc hstep
      cases D with
      | nil =>
       refine CallG.pure _ ((show ∀ H, ACall Tryz.prog 50 [eBook (tgB b L u), n' 0, n' ((k + 1 : Nat) : Int)] H (.ret (tellV none)) H from hc)) ?_
       refine If.mk (fun h => absurd h (by decide)) (fun _ => ?_)
       refine If.mk (fun _ => ?_) (fun h => absurd (by decide) h)
       refine ifN ?_
       cases sk with
       | true =>
        refine If.mk (fun _ => ?_) (fun h => absurd (by decide) h)
        refine Side.mk (fits64 (by omega)) ?_
        refine ⟨leb rfl, rfl, by omega, trivial, ⟨⟨_, rfl, Weak.refl _ _, under_eInts _ _⟩, ⟨_, rfl, Weak.refl _ _, under_eInts _ _⟩, wp rfl (ltb rfl), wp rfl (ltb rfl), ⟨_, rfl, Weak.of_eq (congrArg nb hstep.symm), trivial⟩, wp rfl trivial, trivial⟩, ⟨bk rfl rfl, bk rfl rfl, trivial⟩, trivial⟩
       | false =>
        refine Side.mk (fits64 (by omega)) ?_
        refine ⟨leb rfl, rfl, by omega, trivial, ⟨⟨_, rfl, Weak.refl _ _, under_eInts _ _⟩, ⟨_, rfl, Weak.refl _ _, under_eInts _ _⟩, wp rfl (ltb rfl), wp rfl (ltb rfl), ⟨_, rfl, Weak.of_eq (congrArg nb hstep.symm), trivial⟩, wp rfl trivial, trivial⟩, ⟨bk rfl rfl, bk rfl rfl, trivial⟩, trivial⟩
      | cons c D =>
       refine CallG.pure _ ((show ∀ H, ACall Tryz.prog 50 [eBook (tgB b L u), n' 0, n' ((k + 1 : Nat) : Int)] H (.ret (tellV (some (c :: D)))) H from hc)) ?_
       refine If.mk (fun _ => ?_) (fun h => absurd (by decide) h)
       refine ifN ?_
       cases sk with
       | true =>
        refine If.mk (fun h => absurd h (by decide)) (fun _ => ?_)
        refine Side.mk (fits64 (by omega)) ?_
        refine ⟨leb rfl, rfl, by omega, trivial, ⟨⟨_, rfl, Weak.refl _ _, under_eInts _ _⟩, ⟨_, rfl, Weak.refl _ _, under_eInts _ _⟩, wp rfl (ltb rfl), wp rfl (ltb rfl), ⟨_, rfl, Weak.of_eq (congrArg nb hstep.symm), trivial⟩, wp rfl trivial, trivial⟩, ⟨bk rfl rfl, bk rfl rfl, trivial⟩, trivial⟩
       | false =>
        refine Side.mk (fits64 (by omega)) ?_
        refine ⟨leb rfl, rfl, by omega, trivial, ⟨⟨_, rfl, Weak.refl _ _, under_eInts _ _⟩, ⟨_, rfl, Weak.refl _ _, under_eInts _ _⟩, wp rfl (ltb rfl), wp rfl (ltb rfl), ⟨_, rfl, Weak.of_eq (congrArg nb hstep.symm), trivial⟩, wp rfl trivial, trivial⟩, ⟨bk rfl rfl, bk rfl rfl, trivial⟩, trivial⟩
     ·refine ifN ?_
      refine ⟨leb rfl, ?_⟩
      have ek : k = L.length - 1 := by have : ¬ ((k + 1 : Nat) : Int) < (L.length : Nat) := h2; omega
      subst ek
      exact ⟨.inl rfl, FinG.mk _ rfl rfl (by rw [hsk]; rfl)⟩
end Go.Vm
