/-
  Contracts of functions of packages kelirlaw04, kelirref04, kelirref02, cue and slices, for books, evenings and lists as told at each, in every heap. Conditions: at each theorem. (What was noted; appends; clones; the order of lists.)
-/
import Derived.Test.YtdhdaadoehbopaaGreatDoorCa
import Derived.Test.YtdhdaadoehbopaaGreatDoorVc

namespace Go.Vm
open Go.Proofs
def TuneP (b : Book) (c : Int) : Prop := c ≠ -1 → inI c 0 (b.tunes - 1)
instance (b : Book) (c : Int) : Decidable (TuneP b c) := by unfold TuneP; infer_instance
def Noted (t h : List Int) : Prop := ∀ i, i < h.length → 0 ≤ h.getD i 0 → t.getD i 0 = h.getD i 0
instance (t h : List Int) : Decidable (Noted t h) := by unfold Noted; infer_instance
def Agrees (v : Vers) (evs : List Evening) : Prop := ∀ e ∈ evs, Noted (plays v 0 e.1) e.2
instance (v : Vers) (evs : List Evening) : Decidable (Agrees v evs) := by unfold Agrees; infer_instance
def Listed (l : List Int) (n : Int) : Prop := n ∈ l
instance (l : List Int) (n : Int) : Decidable (Listed l n) := by unfold Listed; infer_instance
end Go.Vm

namespace Go.Vm
open Go.Proofs
def VersL (b : Book) (l : List Int) : Prop := ∀ r, r < l.length → inI (l.getD r 0) 0 (b.vs.length - 1) ∧ (0 < r → l.getD (r - 1) 0 < l.getD r 0)
instance (b : Book) (l : List Int) : Decidable (VersL b l) := by unfold VersL; infer_instance
theorem appT_full {P : Program} {g : Nat → Option Blk} {n sT xT e size bytes len k : Nat} {z : Value} {cells new : List AV} {x : AV} (h1 : tslice P sT = some e) (h2 : tsz P e = some size) (h3 : tz P e = some z) (h4 : tbytes P e = some bytes)
  (h5 : (tsrc P xT && (decide (bytes ≤ 2097152) && decide (z.cells.size = size))) = true) (h6 : srcT g size x = some (k, new)) (h7 : 0 < k) (h8 : cells.length = len * size) (h9 : len + k ≤ 2097152) :
  appT P false g n sT xT (.sl len cells .full) x = some (.sl (len + k) (cells ++ new) (.own n 0 size), .push (.row 0)) := by
 unfold appT
 simp only [h1, h2, h3, h4, h5, h6, if_true]
 rw [if_neg (by omega), if_pos ⟨h8, h9⟩]
 rfl
theorem ACall.empty {P : Program} {f : FuncId} {H H' : List Blk} {r : AEnd} (h : ∀ b cap, ACall P f [.lit (.slice b 0 cap)] H r H') : ACall P f [.sl 0 [] .unk] H r H' := by
 intro O ι w cs hR hargs
 obtain ⟨l⟩ := cs
 match l, hargs with
 | [], x => simp [VRels] at x
 | _ :: _ :: _, x => simp [VRels] at x
 | [c], x =>
  simp only [VRels, VRel, and_true] at x
  obtain ⟨base, cap, rfl, _, _⟩ := x
  exact h base cap O ι w _ hR (by simp [VRels, VRel])
theorem ACall.more {P : Program} {f : FuncId} {args : List AV} {H H' : List Blk} {v v' : AV} (h : ACall P f args H (.ret v) H') (B : Blk) (hw : WeakH (H' ++ [.row 0]) v v') (hB : B = .row 0) : ACall P f args H (.ret v') (H' ++ [B]) := by
 subst hB
 intro O ι w cs hR hargs
 refine (h O ι w cs hR hargs).mono ?_
 rintro e w' ⟨ι', hend, hR', hev, hnon⟩
 cases e with
 | panicked chain => exact hend.elim
 | outgrown => exact hend.elim
 | returned c =>
  have hend' : VRel ⟨H', ι', w'⟩ v c := hend
  have hev2 : Ev ⟨H', ι', w'⟩ ⟨H' ++ [.row 0], ι', w'⟩ := Ev.fresh hR' (w' := w') (H2 := [.row 0]) (fun _ _ => rfl) ⟨rfl, rfl⟩
  have hR2 : Rel ⟨H' ++ [.row 0], ι', w'⟩ := Rel.fresh hR' (w' := w') (H2 := [.row 0]) (fun _ _ => rfl) ⟨rfl, rfl⟩
  exact ⟨ι', hw O ι' w' c (hend'.ev hev2), hR2, hev.trans hev2, fun id hn hx => hnon id hn hx⟩
theorem WeakH.own {H : List Blk} {r : Nat} (sz : Nat) (hr : H[r]? = some (.row 0)) : WeakH H (.lit (.slice none 0 0)) (.sl 0 [] (.own r 0 sz)) := fun _ _ _ _ h => by
 simp only [VRel] at h ⊢
 exact ⟨none, 0, h, Nat.le_refl _, .inl trivial, by simp, 0, hr, Nat.le_refl _, fun _ => .inl rfl⟩
theorem WeakH.fullOwn {H : List Blk} {r : Nat} (sz : Nat) (hr : H[r]? = some (.row 0)) : WeakH H (.sl 0 [] .full) (.sl 0 [] (.own r 0 sz)) := fun _ _ _ _ h => by
 simp only [VRel] at h ⊢
 obtain ⟨base, cap, hc, hle, hcells, ht⟩ := h
 exact ⟨base, cap, hc, hle, hcells, by simp, 0, hr, Nat.le_refl _, fun _ => .inl ht⟩
end Go.Vm

namespace Go.Vm
open Go.Proofs
set_option maxRecDepth 100000 in
theorem c_cloneI00 (cap : Nat) (H : List Blk) : ACall Tryz.prog 135 [.lit (.slice none 0 cap)] H (.ret (.lit (.slice none 0 0))) H := by
 refine fn_rule (m := false) (fn := Tryz.f135) (c := (Tryz.f135.body).getD .skip) mixed (by kernel_rfl) (by kernel_rfl) (of_decide_eq_true (by kernel_rfl)) ?_ ?_ ?_ H
 ·exact ⟨trivial, trivial⟩
 ·trivial
 ·refine ifY ?_
  exact ⟨.inl rfl, FinG.mk _ rfl rfl rfl⟩
set_option maxRecDepth 100000 in
theorem c_cloneI01 (a : Addr) (cap : Nat) (H : List Blk) : ACall Tryz.prog 135 [.lit (.slice (some a) 0 cap)] H (.ret (.sl 0 [] .full)) H := by
 refine fn_rule (m := false) (fn := Tryz.f135) (c := (Tryz.f135.body).getD .skip) mixed (by kernel_rfl) (by kernel_rfl) (of_decide_eq_true (by kernel_rfl)) ?_ ?_ ?_ H
 ·exact ⟨trivial, trivial⟩
 ·exact ⟨trivial, trivial⟩
 ·refine ifN ?_
  refine Ex.mk _ rfl ?_
  exact ⟨.inl rfl, FinG.mk _ rfl rfl rfl⟩
set_option maxRecDepth 100000 in
theorem CallG.cloneI {l : List Int} {t : Trie Blk} {n : Nat} {K Kp : AV → Trie Blk → Nat → Nat → Prop} (hl : l.length < 1000000) (hn : n ≤ noLo) (k : K (.sl l.length (l.map n') (.own n 0 1)) (set t n (.row 0)) (n + 1) noLo) : CallG Tryz.prog 135 [eInts l] t n K Kp := by
 refine .ret fun H hH => ?_
 have hlen := hH.len
 have hrow : (H ++ [Blk.row 0])[n]? = some (.row 0) := by rw [← hlen]; simp
 cases l with
 | nil =>
  refine ⟨_, _, _, noLo, H ++ [.row 0], hH.push _, ?_, Keep.append _ _ _, k⟩
  refine ACall.empty fun b cap => ?_
  cases b with
  | none => exact (c_cloneI00 cap H).more (.row 0) (WeakH.own 1 hrow) rfl
  | some a => exact (c_cloneI01 a cap H).more (.row 0) (WeakH.fullOwn 1 hrow) rfl
 | cons e l =>
  have key : ∃ H', HT (setL t [(n, .row 0)]) (n + 1) H' ∧ ACall Tryz.prog 135 [eInts (e :: l)] H (.ret (.sl (e :: l).length ((e :: l).map n') (.own n 0 1))) H' ∧ Keep H H' noLo := by
   refine fn_new (m := false) (fn := Tryz.f135) (c := (Tryz.f135.body).getD .skip) mixed (by kernel_rfl) (by kernel_rfl) (of_decide_eq_true (by kernel_rfl)) ?_ H hH
   refine ifN ?_
   refine ex_app _ _ (appT_full (e := 3) (bytes := 8) (z := .int .i64 0) (by kernel_rfl) (by kernel_rfl) (by kernel_rfl) (by kernel_rfl) (by kernel_rfl) (src_ints _ (e :: l)) (by simp) rfl (by simp at hl ⊢; omega)) ?_
   refine ⟨.inl rfl, hn, rfl, ⟨⟨get_set_same _ _ _, Nat.lt_succ_self _⟩, trivial⟩, FinF.mk _ rfl rfl ?_⟩
   show AV.sl (0 + (e :: l).length) ([] ++ (e :: l).map n') _ = _
   rw [List.nil_append, Nat.zero_add]
  obtain ⟨H', h1, h2, h3⟩ := key
  exact ⟨_, _, _, noLo, H', h1, h2, h3, k⟩
end Go.Vm
