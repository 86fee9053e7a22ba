/-
  The law CueAdds of package kelirlaw04 returns true for every input, and each argument reads afterwards as it read before: the tied card. Conditions: what the row lists of package-level variables, tied to the text of the program.
-/
import Derived.Test.YtdhdaadoehbopaaGreatDoorCd
import Derived.Test.YtdhdaadoehbopaaGreatDoorCc
import Derived.Test.YtdhdaadoehbopaaGreatDoorVk
import Derived.Test.YtdhdaadoehbopaaGreatDoorVc
import Derived.Test.YtdhdaadoehbopaaGreatDoorVr
import Derived.Test.YtdhdaadoehbopaaGreatDoorCb
import Derived.Test.YtdhdaadoehbopaaGreatDoorRows
import Derived.Test.YtdhdaadoehbopaaGreatDoorTie
import Derived.Test.YtdhdaadoehbopaaGreatDoorCards
import Derived.SevenTiedAt

/-
  CueAdds: its walk. (Own work.)
-/
namespace Go.Vm
open Go.Proofs

theorem lent_ints {k id gen : Nat} {x : List Int} {l l' : List AV} (h : k = x.length) (t : Lent id gen (x.map n') l l') : Lent id gen (x.map n') (.msl id gen k 1 :: l) (eInts x :: l') := by
  subst h
  exact .this (by rw [List.length_map]) t

theorem app_nilM {g : Nat → Option Blk} {n : Nat} {l : List Int} (h : l ≠ []) (hl : l.length ≤ 2097152) : appT Tryz.prog true g n 25 25 (.lit (.slice none 0 0)) (eInts l) = some (.msl n 0 l.length 1, .push (.mrow 0 (l.map n'))) := by
  have h1 : tslice Tryz.prog 25 = some 3 := by kernel_rfl
  have h2 : tsz Tryz.prog 3 = some 1 := by kernel_rfl
  have h3 : tz Tryz.prog 3 = some (.int .i64 0) := by kernel_rfl
  have h4 : tbytes Tryz.prog 3 = some 8 := by kernel_rfl
  have h5 : (tsrc Tryz.prog 25 && (decide (8 ≤ 2097152) && decide ((Value.int .i64 0).cells.size = 1))) = true := by kernel_rfl
  have := List.length_pos_iff.2 h
  unfold appT
  simp only [h1, h2, h3, h4, h5, src_ints, if_true]
  rw [if_neg (by omega), if_pos hl]

theorem plays_tunes {b : Book} {v : Vers} {k : Nat} (hV : VOk b v) (hvo : VersOk v k) : ∀ {l : List Int} {s : Nat}, s < v.length → (∀ x ∈ l, 0 ≤ x ∧ x < k) → ∀ y ∈ plays v s l, inI y 0 (b.tunes - 1)
  | [], _, _, _, _, h => by cases h
  | c :: l, s, hs, hl, y, hy => by
    have hc := hl c (by simp)
    obtain ⟨x, hx1, hx2, hx3, _⟩ := mv_at (s := s) (c := c.toNat) hvo hs (by omega)
    have hy' : y ∈ (mv v s c.toNat).2 :: plays v (mv v s c.toNat).1.toNat l := hy
    rcases List.mem_cons.1 hy' with rfl | hy'
    · exact ((hV.1 x (List.mem_of_getElem? hx1)).2 _ (List.mem_of_getElem? hx2)).2
    · exact plays_tunes hV hvo hx3 (fun z hz => hl z (List.mem_cons_of_mem _ hz)) y hy'

theorem tunes_set {b : Book} {tunes : List Int} (h : LTunes b tunes) {r : Nat} (k : Nat) (hr : (r : Int) < b.tunes) : LTunes b (tunes.set k (r : Int)) := by
  refine ⟨fun c hc hne => ?_, by rw [List.length_set]; exact h.2⟩
  rcases List.mem_or_eq_of_mem_set hc with hc | rfl
  · exact h.1 c hc hne
  · unfold inI; omega

theorem list_of {b : Book} {l : List Int} (h : l.length ≤ 8) (hm : ∀ x ∈ l, 0 ≤ x ∧ x < b.cues.toNat) : LList b l := by
  refine ⟨by omega, fun c hc => ?_⟩
  have := hm c hc
  unfold inI; omega



set_option maxHeartbeats 8000000 in
set_option maxRecDepth 100000 in
theorem c_cueAdds (b : Book) (version : Int) (tunes : List Int) (p : Int) (other : List Int) (H : List Blk) : ACall Tryz.prog 7 [eBook b, n' version, eInts tunes, n' p, eInts other] H (.ret (.lit (.bool true))) H := by
  refine fn_rule (m := true) (fn := Tryz.f7) (c := (Tryz.f7.body).getD .skip) mixed (by kernel_rfl) (by kernel_rfl) (of_decide_eq_true (by kernel_rfl)) ?_ ?_ ?_ H
  · exact ⟨under_eBook 0 _, trivial, under_eInts 0 _, trivial, under_eInts 0 _, trivial⟩
  · trivial
  · refine CallG.wbool (.cons (fun H => WeakH.refl _ H) (.cons wk_nilE .nil)) (c_right b []) (fun hR => ?_) (fun _ => ?_)
    · obtain ⟨⟨⟨hsh, _⟩, hB⟩, _⟩ := hR
      refine CallG.bool (c_version hB.fit _) (fun h2 => ?_) (fun _ => ?_)
      · refine If.mk (fun h3 => ?_) (fun h3 => ?_)
        · refine IfB.mk (fun _ => ?_) (fun e => by cases e)
          refine CallG.pure _ (known_call) ?_
          exact ⟨.inl rfl, FinG.mk _ rfl rfl rfl⟩
        · refine CallG.bool (c_tunes hB.fit _ (by omega)) (fun ht => ?_) (fun _ => ?_)
          · refine If.mk (fun h4 => ?_) (fun h4 => ?_)
            · refine IfB.mk (fun _ => ?_) (fun e => by cases e)
              refine CallG.pure _ (known_call) ?_
              exact ⟨.inl rfl, FinG.mk _ rfl rfl rfl⟩
            · refine If.mk (fun h5 => ?_) (fun h5 => ?_)
              · refine IfB.mk (fun _ => ?_) (fun e => by cases e)
                refine CallG.pure _ (known_call) ?_
                exact ⟨.inl rfl, FinG.mk _ rfl rfl rfl⟩
              · obtain ⟨x, hx⟩ : ∃ x, tunes[p.toNat]? = some x := ⟨_, List.getElem?_eq_getElem (by omega)⟩
                refine Ex.mk _ (jx_ints (r := p.toNat) (by omega) hx) ?_
                refine Ex.mk _ rfl ?_
                refine If.mk (fun h6 => ?_) (fun h6 => ?_)
                · subst h6
                  refine If.mk (fun h7 => ?_) (fun h7 => ?_)
                  · refine CallG.bool (c_list hB.fit _ (by omega)) (fun hO => ?_) (fun _ => ?_)
                    · refine IfB.mk (fun e => by cases e) (fun _ => ?_)
                      have h2' := h2
                      unfold inI at h2'
                      obtain ⟨v, hv⟩ : ∃ v, b.vs[version.toNat]? = some v := ⟨_, List.getElem?_eq_getElem (by omega)⟩
                      have hV := hB.2 v (List.mem_of_getElem? hv)
                      obtain ⟨hvo, hv0⟩ := hV.vers
                      have htl := ht.2
                      have hbt := hB.1.2.1
                      have hbc := hB.1.1
                      unfold inI at hbt hbc
                      have hne : tunes ≠ [] := fun e => by subst e; simp at h5; omega
                      obtain ⟨cnt, hcnt⟩ : ∃ cnt : Nat → Nat, cnt = fun t : Nat => (fitL b.cues.toNat v (tunes.set p.toNat (t : Int)) tunes.length).length := ⟨_, rfl⟩
                      have hcle : ∀ t, cnt t ≤ 65536 := fun t => by rw [hcnt]; exact fitL_small (by omega) _ _ (by omega)
                      have hsum : sumN cnt b.tunes.toNat = (fitL b.cues.toNat v tunes tunes.length).length := by
                        rw [hcnt]
                        refine fit_sum (by omega) (by rw [List.getD_eq_getElem?_getD, hx]; rfl) fun l hl y hy => ?_
                        have := plays_tunes hV hvo hv0 hl y hy
                        unfold inI at this
                        omega
                      have hsle : ∀ n, sumN cnt n ≤ n * 65536 := sumN_le hcle
                      have hcc := fun H => c_count hsh.len hB (by omega) hv ht H
                      rw [hitL_nil] at hcc
                      generalize hF : fitL b.cues.toNat v tunes tunes.length = F at hcc hsum
                      cases F with
                      | nil =>
                        refine CallG.pure _ (hcc) ?_
                        refine LoopG.at (n0 := 1) rfl (loop_up mixed (m := true) (fun r => [(1, n' version), (2, eInts tunes), (3, n' p), (4, eInts other), (5, .ptr 0 0), (11, n' 0), (12, .lit (.slice none 0 0)), (13, .lit (.int .i64 5)), (14, n' (sumN cnt r : Nat)), (15, n' r)]) (fun _ => [(0, bBox b)]) (fun _ => True) b.tunes.toNat 1 (leb rfl) trivial ?_ ?_ ?_)
                        · exact ⟨⟨_, rfl, Weak.refl _ _, trivial⟩, ⟨_, rfl, Weak.refl _ _, under_eInts _ _⟩, ⟨_, rfl, Weak.refl _ _, trivial⟩, ⟨_, rfl, Weak.refl _ _, under_eInts _ _⟩, ⟨_, rfl, Weak.refl _ _, ltb rfl⟩, ⟨_, rfl, Weak.refl _ _, trivial⟩, ⟨_, rfl, Weak.refl _ _, trivial⟩, ⟨_, rfl, Weak.refl _ _, trivial⟩, ⟨_, rfl, Weak.refl _ _, trivial⟩, ⟨_, rfl, Weak.refl _ _, trivial⟩, trivial⟩
                        · exact ⟨⟨rfl, ltb rfl⟩, trivial⟩
                        · intro r hr _
                          refine If.mk (fun h8 => ?_) (fun h8 => ?_)
                          · refine IfB.mk (fun _ => ?_) (fun e => by cases e)
                            refine ex_app _ _ (app_nilM hne (by omega)) ?_
                            refine Ex.mk _ (ix_msl (r := p.toNat) (by omega) (by omega)) ?_
                            have hset : tunes.take p.toNat ++ [(r : Int)] ++ tunes.drop (p.toNat + 1) = tunes.set p.toNat (r : Int) := by
                              rw [List.set_eq_take_append_cons_drop, if_pos (by omega), List.append_assoc, List.singleton_append]
                            refine Ex.mk (DR.val (.lit undef) (.set 1 (.mrow 0 ((tunes.set p.toNat (r : Int)).map n')))) ?_ ?_
                            · refine aop_store (t := 3) rfl rfl rfl ?_
                              rw [← hset]
                              exact store_mptr rfl (by omega)
                            refine CallG.retire 1 0 (args' := [eBook b, n' version, eInts (tunes.set p.toNat (r : Int))]) rfl (.same (.same (lent_ints (by rw [List.length_set]) .nil))) ?_
                            have hcx := fun H => c_count hsh.len hB (by omega) hv (tunes_set ht p.toNat (r := r) (by omega)) H
                            rw [hitL_nil, List.length_set] at hcx
                            have hcr : cnt r = (fitL b.cues.toNat v (tunes.set p.toNat (r : Int)) tunes.length).length := by rw [hcnt]
                            have hc1 := hcle r
                            have hc2 := hsle r
                            have hc3 : r * 65536 ≤ 6 * 65536 := Nat.mul_le_mul_right _ (by omega)
                            have hc4 : sumN cnt (r + 1) = sumN cnt r + cnt r := rfl
                            generalize fitL b.cues.toNat v (tunes.set p.toNat (r : Int)) tunes.length = G at hcx hcr
                            cases G with
                            | nil =>
                              refine CallG.pure _ (hcx) ?_
                              have hc0 : cnt r = 0 := hcr
                              refine If.mk (fun h => absurd h (by decide)) (fun _ => ?_)
                              refine If.mk (fun _ => ?_) (fun h => absurd (by decide) h)
                              refine If.mk (fun h => absurd h (by decide)) (fun _ => ?_)
                              refine If.mk (fun h => absurd h (by decide)) (fun _ => ?_)
                              refine If.mk (fun _ => ?_) (fun h => absurd (by decide) h)
                              refine If.mk (fun _ => ?_) (fun h => absurd (by decide) h)
                              refine IfB.mk (fun e => by cases e) (fun _ => ?_)
                              refine Side.mk (fits64 (by omega)) ?_
                              refine Side.mk (fits64 (by omega)) ?_
                              refine ⟨leb rfl, rfl, by omega, trivial, ⟨⟨_, rfl, Weak.refl _ _, trivial⟩, ⟨_, rfl, Weak.refl _ _, under_eInts _ _⟩, ⟨_, rfl, Weak.refl _ _, trivial⟩, ⟨_, rfl, Weak.refl _ _, under_eInts _ _⟩, ⟨_, rfl, Weak.refl _ _, ltb rfl⟩, ⟨_, rfl, Weak.refl _ _, trivial⟩, ⟨_, rfl, Weak.refl _ _, trivial⟩, ⟨_, rfl, Weak.refl _ _, trivial⟩, ⟨_, rfl, Weak.of_eq (?_), trivial⟩, ⟨_, rfl, Weak.refl _ _, trivial⟩, trivial⟩, ⟨⟨rfl, ltb rfl⟩, trivial⟩, trivial⟩
                              rw [hc4, hc0]
                              rfl
                            | cons y G =>
                              refine CallG.pure _ (hcx) ?_
                              refine If.mk (fun _ => ?_) (fun h => absurd (by decide) h)
                              refine If.mk (fun h => absurd h (by omega)) (fun _ => ?_)
                              refine If.mk (fun h => absurd h (by omega)) (fun _ => ?_)
                              refine If.mk (fun h => absurd h (by decide)) (fun _ => ?_)
                              refine IfB.mk (fun e => by cases e) (fun _ => ?_)
                              refine Side.mk (fits64 (by omega)) ?_
                              refine Side.mk (fits64 (by omega)) ?_
                              refine ⟨leb rfl, rfl, by omega, trivial, ⟨⟨_, rfl, Weak.refl _ _, trivial⟩, ⟨_, rfl, Weak.refl _ _, under_eInts _ _⟩, ⟨_, rfl, Weak.refl _ _, trivial⟩, ⟨_, rfl, Weak.refl _ _, under_eInts _ _⟩, ⟨_, rfl, Weak.refl _ _, ltb rfl⟩, ⟨_, rfl, Weak.refl _ _, trivial⟩, ⟨_, rfl, Weak.refl _ _, trivial⟩, ⟨_, rfl, Weak.refl _ _, trivial⟩, ⟨_, rfl, Weak.of_eq (?_), trivial⟩, ⟨_, rfl, Weak.refl _ _, trivial⟩, trivial⟩, ⟨⟨rfl, ltb rfl⟩, trivial⟩, trivial⟩
                              rw [hc4, hcr]
                              rfl
                          · refine IfB.mk (fun e => by cases e) (fun _ => ?_)
                            refine ⟨leb rfl, ?_⟩
                            have er : r = b.tunes.toNat := by omega
                            subst er
                            refine CallG.pure _ (c_plays_ok hsh.len hB h2.1 hv hO) ?_
                            refine If.mk (fun h => absurd h (by decide)) (fun _ => ?_)
                            refine If.mk (fun _ => ?_) (fun h => absurd (by decide) h)
                            refine If.mk (fun _ => ?_) (fun h => absurd (by decide) h)
                            refine If.mk (fun _ => ?_) (fun h => absurd (by rw [hsum]; rfl) h)
                            refine If.mk (fun h => absurd h (by decide)) (fun _ => ?_)
                            refine If.mk (fun h => absurd h (by decide)) (fun _ => ?_)
                            refine IfB.mk (fun e => by cases e) (fun _ => ?_)
                            refine CallG.bool (c_fits _ _ (by rw [plays_length]; omega) (by omega) (heard_m1 ht)) (fun hN => ?_) (fun hN => ?_)
                            · exfalso
                              have hm : other ∈ hitS b.cues.toNat v 0 tunes := hitS_mem.2 ⟨⟨by omega, (hO.cues (by omega)).1⟩, hN⟩
                              rw [← fitL_hitS, hF] at hm
                              cases hm
                            · refine If.mk (fun h => absurd h (by decide)) (fun _ => ?_)
                              refine IfB.mk (fun _ => ?_) (fun e => by cases e)
                              refine CallG.pure _ (known_call) ?_
                              exact ⟨.inl rfl, FinG.mk _ rfl rfl rfl⟩
                      | cons x L =>
                        refine CallG.pure _ (hcc) ?_
                        refine LoopG.at (n0 := 1) rfl (loop_up mixed (m := true) (fun r => [(1, n' version), (2, eInts tunes), (3, n' p), (4, eInts other), (5, .ptr 0 0), (11, n' ((x :: L).length : Nat)), (12, eInts x), (13, .lit (.int .i64 0)), (14, n' (sumN cnt r : Nat)), (15, n' r)]) (fun _ => [(0, bBox b)]) (fun _ => True) b.tunes.toNat 1 (leb rfl) trivial ?_ ?_ ?_)
                        · exact ⟨⟨_, rfl, Weak.refl _ _, trivial⟩, ⟨_, rfl, Weak.refl _ _, under_eInts _ _⟩, ⟨_, rfl, Weak.refl _ _, trivial⟩, ⟨_, rfl, Weak.refl _ _, under_eInts _ _⟩, ⟨_, rfl, Weak.refl _ _, ltb rfl⟩, ⟨_, rfl, Weak.refl _ _, trivial⟩, ⟨_, rfl, Weak.refl _ _, under_eInts _ _⟩, ⟨_, rfl, Weak.refl _ _, trivial⟩, ⟨_, rfl, Weak.refl _ _, trivial⟩, ⟨_, rfl, Weak.refl _ _, trivial⟩, trivial⟩
                        · exact ⟨⟨rfl, ltb rfl⟩, trivial⟩
                        · intro r hr _
                          refine If.mk (fun h8 => ?_) (fun h8 => ?_)
                          · refine IfB.mk (fun _ => ?_) (fun e => by cases e)
                            refine ex_app _ _ (app_nilM hne (by omega)) ?_
                            refine Ex.mk _ (ix_msl (r := p.toNat) (by omega) (by omega)) ?_
                            have hset : tunes.take p.toNat ++ [(r : Int)] ++ tunes.drop (p.toNat + 1) = tunes.set p.toNat (r : Int) := by
                              rw [List.set_eq_take_append_cons_drop, if_pos (by omega), List.append_assoc, List.singleton_append]
                            refine Ex.mk (DR.val (.lit undef) (.set 1 (.mrow 0 ((tunes.set p.toNat (r : Int)).map n')))) ?_ ?_
                            · refine aop_store (t := 3) rfl rfl rfl ?_
                              rw [← hset]
                              exact store_mptr rfl (by omega)
                            refine CallG.retire 1 0 (args' := [eBook b, n' version, eInts (tunes.set p.toNat (r : Int))]) rfl (.same (.same (lent_ints (by rw [List.length_set]) .nil))) ?_
                            have hcx := fun H => c_count hsh.len hB (by omega) hv (tunes_set ht p.toNat (r := r) (by omega)) H
                            rw [hitL_nil, List.length_set] at hcx
                            have hcr : cnt r = (fitL b.cues.toNat v (tunes.set p.toNat (r : Int)) tunes.length).length := by rw [hcnt]
                            have hc1 := hcle r
                            have hc2 := hsle r
                            have hc3 : r * 65536 ≤ 6 * 65536 := Nat.mul_le_mul_right _ (by omega)
                            have hc4 : sumN cnt (r + 1) = sumN cnt r + cnt r := rfl
                            generalize fitL b.cues.toNat v (tunes.set p.toNat (r : Int)) tunes.length = G at hcx hcr
                            cases G with
                            | nil =>
                              refine CallG.pure _ (hcx) ?_
                              have hc0 : cnt r = 0 := hcr
                              refine If.mk (fun h => absurd h (by decide)) (fun _ => ?_)
                              refine If.mk (fun _ => ?_) (fun h => absurd (by decide) h)
                              refine If.mk (fun h => absurd h (by decide)) (fun _ => ?_)
                              refine If.mk (fun h => absurd h (by decide)) (fun _ => ?_)
                              refine If.mk (fun _ => ?_) (fun h => absurd (by decide) h)
                              refine If.mk (fun _ => ?_) (fun h => absurd (by decide) h)
                              refine IfB.mk (fun e => by cases e) (fun _ => ?_)
                              refine Side.mk (fits64 (by omega)) ?_
                              refine Side.mk (fits64 (by omega)) ?_
                              refine ⟨leb rfl, rfl, by omega, trivial, ⟨⟨_, rfl, Weak.refl _ _, trivial⟩, ⟨_, rfl, Weak.refl _ _, under_eInts _ _⟩, ⟨_, rfl, Weak.refl _ _, trivial⟩, ⟨_, rfl, Weak.refl _ _, under_eInts _ _⟩, ⟨_, rfl, Weak.refl _ _, ltb rfl⟩, ⟨_, rfl, Weak.refl _ _, trivial⟩, ⟨_, rfl, Weak.refl _ _, under_eInts _ _⟩, ⟨_, rfl, Weak.refl _ _, trivial⟩, ⟨_, rfl, Weak.of_eq (?_), trivial⟩, ⟨_, rfl, Weak.refl _ _, trivial⟩, trivial⟩, ⟨⟨rfl, ltb rfl⟩, trivial⟩, trivial⟩
                              rw [hc4, hc0]
                              rfl
                            | cons y G =>
                              refine CallG.pure _ (hcx) ?_
                              refine If.mk (fun _ => ?_) (fun h => absurd (by decide) h)
                              refine If.mk (fun h => absurd h (by omega)) (fun _ => ?_)
                              refine If.mk (fun h => absurd h (by omega)) (fun _ => ?_)
                              refine If.mk (fun h => absurd h (by decide)) (fun _ => ?_)
                              refine IfB.mk (fun e => by cases e) (fun _ => ?_)
                              refine Side.mk (fits64 (by omega)) ?_
                              refine Side.mk (fits64 (by omega)) ?_
                              refine ⟨leb rfl, rfl, by omega, trivial, ⟨⟨_, rfl, Weak.refl _ _, trivial⟩, ⟨_, rfl, Weak.refl _ _, under_eInts _ _⟩, ⟨_, rfl, Weak.refl _ _, trivial⟩, ⟨_, rfl, Weak.refl _ _, under_eInts _ _⟩, ⟨_, rfl, Weak.refl _ _, ltb rfl⟩, ⟨_, rfl, Weak.refl _ _, trivial⟩, ⟨_, rfl, Weak.refl _ _, under_eInts _ _⟩, ⟨_, rfl, Weak.refl _ _, trivial⟩, ⟨_, rfl, Weak.of_eq (?_), trivial⟩, ⟨_, rfl, Weak.refl _ _, trivial⟩, trivial⟩, ⟨⟨rfl, ltb rfl⟩, trivial⟩, trivial⟩
                              rw [hc4, hcr]
                              rfl
                          · refine IfB.mk (fun e => by cases e) (fun _ => ?_)
                            refine ⟨leb rfl, ?_⟩
                            have er : r = b.tunes.toNat := by omega
                            subst er
                            refine CallG.pure _ (c_plays_ok hsh.len hB h2.1 hv hO) ?_
                            have hXm : x ∈ hitS b.cues.toNat v 0 tunes := by rw [← fitL_hitS, hF]; simp
                            obtain ⟨⟨hXl, hXc⟩, hXN⟩ := hitS_mem.1 hXm
                            have hX : LList b x := list_of (by omega) hXc
                            refine If.mk (fun _ => ?_) (fun h => absurd (by decide) h)
                            refine If.mk (fun _ => ?_) (fun h => absurd (by decide) h)
                            refine If.mk (fun _ => ?_) (fun h => absurd (by rw [hsum]) h)
                            refine If.mk (fun _ => ?_) (fun h => absurd (by rw [List.length_cons]; omega) h)
                            refine If.mk (fun _ => ?_) (fun h => absurd (by decide) h)
                            refine IfB.mk (fun e => by cases e) (fun _ => ?_)
                            refine CallG.bool (c_fits _ _ (by rw [plays_length]; omega) (by omega) (heard_m1 ht)) (fun hN => ?_) (fun hN => ?_)
                            · refine If.mk (fun _ => ?_) (fun h => absurd (by decide) h)
                              refine IfB.mk (fun e => by cases e) (fun _ => ?_)
                              refine CallG.pure _ (c_plays_ok hsh.len hB h2.1 hv hX) ?_
                              refine If.mk (fun _ => ?_) (fun h => absurd (by decide) h)
                              refine If.mk (fun _ => ?_) (fun h => absurd (by omega) h)
                              refine CallG.bool (c_fits _ _ (by rw [plays_length]; omega) (by omega) (heard_m1 ht)) (fun _ => ?_) (fun h => absurd hXN h)
                              refine CallG.bool (c_before _ _ (by omega)) (fun hb => ?_) (fun _ => ?_)
                              · exfalso
                                have hm : other ∈ hitS b.cues.toNat v 0 tunes := hitS_mem.2 ⟨⟨by omega, (hO.cues (by omega)).1⟩, hN⟩
                                exact hit_first (by rw [← fitL_hitS, hF]) hm hb
                              · refine CallG.pure _ (known_call) ?_
                                exact ⟨.inl rfl, FinG.mk _ rfl rfl rfl⟩
                            · refine If.mk (fun _ => ?_) (fun h => absurd (by decide) h)
                              refine IfB.mk (fun e => by cases e) (fun _ => ?_)
                              refine CallG.pure _ (c_plays_ok hsh.len hB h2.1 hv hX) ?_
                              refine If.mk (fun _ => ?_) (fun h => absurd (by decide) h)
                              refine If.mk (fun _ => ?_) (fun h => absurd (by omega) h)
                              refine CallG.bool (c_fits _ _ (by rw [plays_length]; omega) (by omega) (heard_m1 ht)) (fun _ => ?_) (fun h => absurd hXN h)
                              refine CallG.pure _ (known_call) ?_
                              exact ⟨.inl rfl, FinG.mk _ rfl rfl rfl⟩
                    · refine IfB.mk (fun _ => ?_) (fun e => by cases e)
                      refine CallG.pure _ (known_call) ?_
                      exact ⟨.inl rfl, FinG.mk _ rfl rfl rfl⟩
                  · refine IfB.mk (fun _ => ?_) (fun e => by cases e)
                    refine CallG.pure _ (known_call) ?_
                    exact ⟨.inl rfl, FinG.mk _ rfl rfl rfl⟩
                · refine IfB.mk (fun _ => ?_) (fun e => by cases e)
                  refine CallG.pure _ (known_call) ?_
                  exact ⟨.inl rfl, FinG.mk _ rfl rfl rfl⟩
          · refine IfB.mk (fun _ => ?_) (fun e => by cases e)
            refine CallG.pure _ (known_call) ?_
            exact ⟨.inl rfl, FinG.mk _ rfl rfl rfl⟩
      · refine IfB.mk (fun _ => ?_) (fun e => by cases e)
        refine CallG.pure _ (known_call) ?_
        exact ⟨.inl rfl, FinG.mk _ rfl rfl rfl⟩
    · refine IfB.mk (fun _ => ?_) (fun e => by cases e)
      refine CallG.pure _ (known_call) ?_
      exact ⟨.inl rfl, FinG.mk _ rfl rfl rfl⟩
end Go.Vm

/-
  CueAdds: the row and its card. (Own work; printed by gen_law.py.)
-/

namespace Go.Proofs.YtdhdaadoehbopaaGreatDoor
open Go.Vm Go.ChangeShapes Go.WideShapes Go.ChangeAt Go.RowKit

set_option maxHeartbeats 8000000 in
set_option maxRecDepth 100000 in
theorem cueAdds_lifted (os : Os) (started : os.Started) (H : Type) (enc : TypeId × Value → H) :
    ReturnsInHanded {} Tryz.checked os 7 .any (fun w args => (Rows.cueAddsSpec.pre enc Tryz.prog Tryz.f7 Rows.cueAddsRow.domain false w args ∧ laidMetH Tryz.prog Rows.cueAddsRow.laid w) ∧ sizedMet enc Tryz.prog Tryz.f7 (OpenSpec.ofChange Rows.cueAddsSpec) false w args)
      (Rows.cueAddsSpec.post enc Tryz.prog Tryz.f7 false true false false) := by
  refine returnsInHanded_of_change_and (C := Tryz.checked) (X := fun w _ => laidMetH Tryz.prog Rows.cueAddsRow.laid w) (fun _ _ _ hh h => h.of_heap hh) own started (by kernel_rfl) Tryz.func7
    (ChangeSpec.witness_shaped (enc := enc) (C := Tryz.checked) (os := os) (X := fun w _ => laidMetH Tryz.prog Rows.cueAddsRow.laid w) false (World.laidAll Tryz.prog os Rows.cueAddsRow.laid) #[.agg #[.int .i64 0, .int .i64 0, .slice none 0 0], .int .i64 0, .slice none 0 0, .int .i64 0, .slice none 0 0] 8 (World.laidAll_os _ _ _)
      (World.shaped_of_ZipB (by kernel_rfl) (by kernel_rfl)) (by kernel_rfl) (by kernel_rfl) (by kernel_rfl)
      (by rw [MakeChecks.laidMetH_plain _ _ _ (by kernel_rfl)]; exact laidMet_laidAll _ (by kernel_rfl) (by kernel_rfl))) ?_
  intro W base args ds gs before hval0 hW _ _ _ _
  have hval : ∀ (j : Nat) t v, Tryz.f7.params[j]? = some t → args[j]? = some v → Value.okWide Tryz.prog W .any base t v := hval0
  have hW' := hW
  obtain ⟨p, q, hA0, hV, rfl, _, _⟩ := hW
  have hA : DataW.TrodAll enc Tryz.prog W 0 (fun _ => true) true Tryz.f7.params.toList args.toList ds p := hA0
  rw [Tryz.params7] at hA hval
  obtain ⟨v0, v1, v2, v3, v4, d0, d1, d2, d3, d4, p0, p1, p2, p3, p4, rfl, rfl, rfl, h0, h1, h2, h3, h4⟩ := trodAll_five hA
  obtain ⟨rfl, rfl⟩ := trodVars_none hV
  obtain ⟨x0, r0, _⟩ := arg_book (hval 0 24 v0 rfl rfl) h0
  obtain ⟨x1, r1, _⟩ := arg_int (hval 1 3 v1 rfl rfl) h1
  obtain ⟨x2, r2, _⟩ := arg_ints (hval 2 25 v2 rfl rfl) h2
  obtain ⟨x3, r3, _⟩ := arg_int (hval 3 3 v3 rfl rfl) h3
  obtain ⟨x4, r4, _⟩ := arg_ints (hval 4 25 v4 rfl rfl) h4
  refine (law_calls (c_cueAdds x0 x1 x2 x3 x4) (by simp only [VRels, and_true]; exact ⟨r0, r1, r2, r3, r4⟩)).mono ?_
  rintro e W' ⟨rfl, hk⟩
  exact ⟨_, rfl, law_post laidOut (by kernel_rfl) (by kernel_rfl) (by kernel_rfl) hW' rfl rfl hk⟩

theorem cueAdds_named : Tryz.pinned.checked.prog.funcNamed Rows.cueAddsRow.func = some 7 := by kernel_rfl
theorem cueAdds_inst : Tryz.f7.isInstance Tryz.pinned.checked.prog Rows.cueAddsRow.origin Rows.cueAddsRow.targs := of_decide_eq_true (by kernel_rfl)
theorem cueAdds_wrap : Tryz.f7.isWrapper Tryz.pinned.checked.prog Rows.cueAddsRow.wrapper Rows.cueAddsRow.mainSum := by unfold Func.isWrapper; first | (rw [if_pos (by decide +kernel)]; kernel_rfl) | (rw [if_neg (by decide +kernel)]; exact ⟨rfl, rfl⟩)
set_option maxHeartbeats 8000000 in
theorem cueAdds_closed : joinedFacts Tryz.pinned.checked.prog 7 Tryz.f7 Rows.cueAddsSpec Rows.cueAddsRow = true := by
  unfold joinedFacts
  refine and_t (and_t (and_t (and_t (and_t (and_t (and_t (and_t (and_t (and_t (and_t (and_t (and_t (and_t (and_t (and_t (and_t (and_t (and_t (and_t (and_t (and_t (and_t (and_t (and_t (and_t (and_t (and_t (and_t (and_t (and_t ?_ ?_) ?_) ?_) ?_) ?_) ?_) ?_) ?_) ?_) ?_) ?_) ?_) ?_) ?_) ?_) ?_) ?_) ?_) ?_) ?_) ?_) ?_) ?_) ?_) ?_) ?_) ?_) ?_) ?_) ?_) ?_
  · as_aux_lemma => kernel_rfl
  · as_aux_lemma => kernel_rfl
  · as_aux_lemma => kernel_rfl
  · as_aux_lemma => kernel_rfl
  · as_aux_lemma => kernel_rfl
  · as_aux_lemma => kernel_rfl
  · as_aux_lemma => kernel_rfl
  · as_aux_lemma => kernel_rfl
  · as_aux_lemma => kernel_rfl
  · as_aux_lemma => kernel_rfl
  · as_aux_lemma => kernel_rfl
  · as_aux_lemma => kernel_rfl
  · as_aux_lemma => kernel_rfl
  · as_aux_lemma => kernel_rfl
  · as_aux_lemma => kernel_rfl
  · as_aux_lemma => kernel_rfl
  · as_aux_lemma => kernel_rfl
  · as_aux_lemma => kernel_rfl
  · as_aux_lemma => kernel_rfl
  · as_aux_lemma => kernel_rfl
  · as_aux_lemma => kernel_rfl
  · as_aux_lemma => kernel_rfl
  · as_aux_lemma => kernel_rfl
  · as_aux_lemma => kernel_rfl
  · as_aux_lemma => kernel_rfl
  · as_aux_lemma => kernel_rfl
  · as_aux_lemma => kernel_rfl
  · as_aux_lemma => kernel_rfl
  · as_aux_lemma => kernel_rfl
  · as_aux_lemma => kernel_rfl
  · as_aux_lemma => kernel_rfl
  · as_aux_lemma => kernel_rfl

theorem cueAdds_holds : Rows.CueAddsSaid :=
  OpenClaim.holds_of_wide 7 Tryz.f7 rfl rfl rfl rfl rfl rfl rfl ⟨rfl, rfl, rfl, rfl, rfl⟩ rfl rfl rfl rfl rfl cueAdds_named Tryz.func7 cueAdds_closed cueAdds_inst cueAdds_wrap
    (fun os started H enc _ => cueAdds_lifted os started H enc)

set_option maxHeartbeats 8000000 in
theorem cueAdds_card : Rows.CueAddsCardSaid :=
  Claim7.holds_tied_plain_at .later [] [.data, .data, .data, .data, .pinned] true (true, "d200c2f9484011b2fecf6d987098eee6f4d6857560912b686a09e1298a9b974d") true cueAdds_holds (fun _ h => by cases h) (by as_aux_lemma => kernel_rfl) (fun _ h => by cases h) cueAdds_row_tie rfl ⟨rfl, rfl⟩ (by as_aux_lemma => kernel_rfl) rfl
    (fun f fn hf hfn => by
      obtain rfl : f = 7 := Option.some.inj (cueAdds_named.symm.trans hf) |>.symm
      obtain rfl : fn = Tryz.f7 := (Option.some.inj (Tryz.func7.symm.trans hfn)).symm
      exact ⟨by as_aux_lemma => kernel_rfl, fun j t ht => by
        rw [Tryz.params7] at ht
        have hm : t ∈ [24, 3, 25, 3, 25] := by simpa using Array.mem_of_getElem? ht
        have hall : ([24, 3, 25, 3, 25].all fun u => !Tryz.prog.wantsStandIn u) = true := by kernel_rfl
        exact (show Tryz.prog.wantsStandIn t = false by simpa using List.all_eq_true.1 hall t hm)⟩)
    (by as_aux_lemma => kernel_rfl)
end Go.Proofs.YtdhdaadoehbopaaGreatDoor
