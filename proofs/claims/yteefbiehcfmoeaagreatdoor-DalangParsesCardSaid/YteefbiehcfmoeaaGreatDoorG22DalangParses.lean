/-
  Texts of the proof, part 22: the machine, contracts of functions, plain laws. (Own work.)
-/
import Derived.Test.YteefbiehcfmoeaaGreatDoorG21DalangParses
import Derived.Test.YteefbiehcfmoeaaGreatDoorG15DalangParses
import Derived.Test.YteefbiehcfmoeaaGreatDoorG14DalangParses
import Derived.Test.YteefbiehcfmoeaaGreatDoorG20DalangParses

namespace Go.Vm
open Go.Proofs Go.RowKit
def numsAll (L : List (List UInt8)) : Prop := ∀ u ∈ L, ∃ n, numD u = some n
def NumsR (L : List (List UInt8)) (l : List Int) (is : Bool) : Prop := (is = true → numOk l → numsAll L ∧ l = numsV L) ∧ (numsAll L → is = true ∧ l = numsV L) ∧ l.length ≤ L.length
def nmV (l : List Int) (is : Bool) : AV := .tup [eInts l, .lit (.bool is)]
structure NSt where
 i : Nat
 out : List Int
def NInv (L : List (List UInt8)) (a : NSt) : Prop := a.i ≤ L.length ∧ a.out.length = a.i ∧ NumsR (L.take a.i) a.out true
theorem under_nI (n : Nat) (l : List Int) : AV.unders n (l.map n') := unders_map (f := n') (fun _ => trivial) _
set_option maxHeartbeats 4000000 in
set_option maxRecDepth 100000 in
theorem c_numbers0 {L : List (List UInt8)} (hl : L.length ≤ 1000) (hL : ∀ u ∈ L, u.length ≤ 600) : ∃ v, ((∃ l is, NumsR L l is ∧ v = nmV l is) ∨ (NumsR L [] false ∧ v = .tup [.lit (.slice none 0 0), .lit (.bool false)])) ∧ ∀ H, ACall Tryz.prog 80 [eStrs (L.map bT), n' 4] H (.ret v) H := by
 have key := fn_ruleP (P := Tryz.prog) (f := 80) (args := [eStrs (L.map bT), n' 4]) (R := fun v => (∃ l is, NumsR L l is ∧ v = nmV l is) ∨ (NumsR L [] false ∧ v = .tup [.lit (.slice none 0 0), .lit (.bool false)])) (R' := fun _ => False) (m := false) (fn := Tryz.f80) (c := (Tryz.f80.body).getD .skip) mixed (by kernel_rfl) (by kernel_rfl) (of_decide_eq_true (by kernel_rfl)) ⟨under_eStrs _ _, trivial, trivial⟩
  (fun v h => by
   rcases h with ⟨l, is, _, rfl⟩ | ⟨_, rfl⟩
   ·exact ⟨under_eInts _ _, trivial, trivial⟩
   ·exact ⟨trivial, trivial, trivial⟩) (fun v h => h.elim) ?_
 ·rcases key with ⟨v, h, hc⟩ | ⟨_, h, _⟩
  ·exact ⟨v, h, hc⟩
  ·exact h.elim
 ·have hml : (L.map bT).length = L.length := List.length_map _
  refine LoopG.ghost (LoopG.at (n0 := 1) rfl (loop_r (α := { a : NSt // NInv L a }) (m := false) mixed (fun a => [(0, eStrs (L.map bT)), (1, n' 4), (6, .sl a.1.i (a.1.out.map n') (.own 0 a.1.i 1)), (7, n' a.1.i)]) (fun a => [(0, .row a.1.i)]) (fun a => L.length - a.1.i) 0 ⟨⟨0, []⟩, Nat.zero_le _, rfl, fun _ _ => ⟨(fun u hu => by cases hu), rfl⟩, fun _ => ⟨rfl, rfl⟩, Nat.zero_le _⟩ (Nat.zero_le _) ?_ ?_ ?_))
  ·exact ⟨⟨_, rfl, Weak.refl _ _, under_eStrs _ _⟩, wp rfl trivial, ⟨_, rfl, Weak.own (r := 0) (g := 0) 1 rfl, ⟨trivial, ltb rfl⟩⟩, wp rfl trivial, trivial⟩
  ·exact ⟨bk rfl rfl, trivial⟩
  ·rintro ⟨⟨i, out⟩, hI⟩
   obtain ⟨hI1, hI2, hI3, hI4, hI5⟩ := hI
   have hI1 : i ≤ L.length := hI1
   have hI2 : out.length = i := hI2
   have hI3 : true = true → numOk out → numsAll (L.take i) ∧ out = numsV (L.take i) := hI3
   have hI4 : numsAll (L.take i) → true = true ∧ out = numsV (L.take i) := hI4
   have hI5 : out.length ≤ (L.take i).length := hI5
   refine If.mk (fun h1 => ?_) (fun h1 => ?_)
   ·refine ifY ?_
    have h1 : (i : Int) < ((L.map bT).length : Nat) := h1
    obtain ⟨w, hw⟩ : ∃ w, L[i]? = some w := ⟨_, List.getElem?_eq_getElem (by omega)⟩
    obtain ⟨n, is, ⟨hn1, hn2, hn3⟩, hc⟩ := c_number2 (hL w (List.mem_of_getElem? hw))
    refine Ex.mk _ (jx_strs (l := L.map bT) (r := i) rfl (by rw [List.getElem?_map, hw]; rfl)) ?_
    refine Ex.mk _ rfl ?_
    refine CallG.pure _ (hc) ?_
    cases is with
    | false =>
     refine ifY ?_
     have h0 : ¬ numsAll L := fun h => by
      obtain ⟨k, hk⟩ := h w (List.mem_of_getElem? hw)
      exact absurd (hn3 k hk).2 (by decide)
     refine ⟨Nat.zero_le _, .inl ⟨.inl rfl, _, .inr ⟨⟨(fun e => by cases e), (fun h => absurd h h0), Nat.zero_le _⟩, rfl⟩, FinG.mk _ rfl rfl rfl⟩⟩
    | true =>
     refine ifN ?_
     refine ex_app _ _ (app_int (by rw [List.length_map]; exact hI2) (by omega) rfl) ?_
     refine Side.mk (fits64 (by omega)) ?_
     refine ⟨Nat.zero_le _, rfl, ⟨⟨i + 1, out ++ [n]⟩, by show i + 1 ≤ _; omega, by show (out ++ [n]).length = i + 1; rw [List.length_append, hI2]; rfl, fun _ h => ?_, fun h => ?_, ?_⟩, by show L.length - (i + 1) < L.length - i; omega, ?_, ?_, ?_⟩
     ·have hn := h n (by simp)
      have hd := hn2 rfl hn.1 hn.2
      obtain ⟨g1, g2⟩ := hI3 rfl fun x hx => h x (List.mem_append_left _ hx)
      refine ⟨fun u hu => ?_, ?_⟩
      ·rw [List.take_add_one, hw] at hu
       rcases List.mem_append.1 hu with hu | hu
       ·exact g1 u hu
       ·have : u = w := by simpa using hu
        rw [this]; exact ⟨_, hd⟩
      ·show out ++ [n] = numsV (L.take (i + 1))
       rw [numsV_take hw, ← g2, ← numV_of hd]
       exact congrArg (fun z => out ++ [z]) (by omega)
     ·have h : numsAll (L.take (i + 1)) := h
      refine ⟨rfl, ?_⟩
      show out ++ [n] = numsV (L.take (i + 1))
      obtain ⟨k, hk⟩ := h w (by rw [List.take_add_one, hw]; simp)
      rw [numsV_take hw, ← (hI4 fun u hu => h u (by rw [List.take_add_one]; exact List.mem_append_left _ hu)).2, ← numV_of hk, (hn3 k hk).1]
     ·show (out ++ [n]).length ≤ (L.take (i + 1)).length
      rw [List.length_append, hI2, List.length_take]
      show i + 1 ≤ _
      omega
     ·refine ⟨⟨_, rfl, Weak.refl _ _, under_eStrs _ _⟩, wp rfl trivial, ⟨_, rfl, Weak.of_eq (?_), ⟨under_nI _ _, ltb rfl⟩⟩, wp rfl trivial, trivial⟩
      show AV.sl (i + 1) (out.map n' ++ [n' n]) (.own 0 (i + 1) 1) = AV.sl (i + 1) ((out ++ [n]).map n') (.own 0 (i + 1) 1)
      rw [List.map_append]
      rfl
     ·exact ⟨bk rfl rfl, trivial⟩
     ·exact ⟨⟨_, rfl, trivial⟩, trivial⟩
   ·refine ifN ?_
    have h1 : ¬ (i : Int) < ((L.map bT).length : Nat) := h1
    obtain rfl : i = L.length := by omega
    rw [List.take_length] at hI3 hI4 hI5
    refine ⟨Nat.zero_le _, .inl ⟨.inl rfl, _, .inl ⟨out, true, ⟨hI3, hI4, hI5⟩, rfl⟩, FinG.mk _ rfl rfl ?_⟩⟩
    show AV.tup [AV.sl L.length (AV.freezes _ (out.map n')) .unk, .lit (.bool true)] = nmV out true
    rw [freezes_ints]
    unfold nmV eInts
    rw [hI2]
theorem wk_nm (H : List Blk) : WeakH H (.tup [.lit (.slice none 0 0), .lit (.bool false)]) (nmV [] false) := fun O ι w x h => by
 unfold nmV
 simp only [VRel] at h ⊢
 obtain ⟨C, hc, hr⟩ := h
 refine ⟨C, hc, ?_⟩
 obtain ⟨l⟩ := C
 match l, hr with
 | [a, d], hr =>
  simp only [VRels] at hr ⊢
  exact ⟨WeakH.nil H O ι w a hr.1, hr.2.1, trivial⟩
 | [], hr => simp [VRels] at hr
 | [_], hr => simp [VRels] at hr
 | _ :: _ :: _ :: _, hr => simp [VRels] at hr
theorem c_numbers {L : List (List UInt8)} (hl : L.length ≤ 1000) (hL : ∀ u ∈ L, u.length ≤ 600) : ∃ l is, NumsR L l is ∧ ∀ H, ACall Tryz.prog 80 [eStrs (L.map bT), n' 4] H (.ret (nmV l is)) H := by
 obtain ⟨v, ⟨l, is, h, rfl⟩ | ⟨h, rfl⟩, hc⟩ := c_numbers0 hl hL
 ·exact ⟨l, is, h, hc⟩
 ·exact ⟨[], false, h, fun H => (hc H).weakRet' wk_nm⟩
end Go.Vm

namespace Go.Vm
open Go.Proofs Go.RowKit
def NumbR (L : List (List UInt8)) (l : List Int) (is : Bool) : Prop := (is = true ↔ numsAll L) ∧ (is = true → l = numsV L) ∧ l.length ≤ L.length
theorem numsV_ok {L : List (List UInt8)} (h : numsAll L) : numOk (numsV L) := by
 intro n hn
 obtain ⟨u, hu, rfl⟩ := List.mem_map.1 hn
 obtain ⟨k, hk⟩ := h u hu
 have h4 := (numD_some hk).2.2.2.1
 rw [← numV_of hk]
 omega
set_option maxHeartbeats 4000000 in
set_option maxRecDepth 100000 in
theorem c_numbered {L : List (List UInt8)} (hl : L.length ≤ 600) (hL : ∀ u ∈ L, u.length ≤ 600) : ∃ l is, NumbR L l is ∧ ∀ H, ACall Tryz.prog 37 [eStrs (L.map bT)] H (.ret (nmV l is)) H := by
 have key := fn_ruleP (P := Tryz.prog) (f := 37) (args := [eStrs (L.map bT)]) (R := fun v => ∃ l is, NumbR L l is ∧ v = nmV l is) (R' := fun _ => False) (m := false) (fn := Tryz.f37) (c := (Tryz.f37.body).getD .skip) mixed (by kernel_rfl) (by kernel_rfl) (of_decide_eq_true (by kernel_rfl)) ⟨under_eStrs _ _, trivial⟩
  (fun v h => by
   obtain ⟨l, is, _, rfl⟩ := h
   exact ⟨under_eInts _ _, trivial, trivial⟩) (fun v h => h.elim) ?_
 ·rcases key with ⟨v, ⟨l, is, h, rfl⟩, hc⟩ | ⟨_, h, _⟩
  ·exact ⟨l, is, h, hc⟩
  ·exact h.elim
 ·obtain ⟨l, is0, ⟨hN1, hN2, hN3⟩, hc⟩ := c_numbers (L := L) (by omega) hL
  refine CallG.pure _ hc ?_
  refine LoopG.at (n0 := 0) rfl (loop_r (α := { a : Nat × Bool // a.1 ≤ l.length ∧ (a.2 = true ↔ (is0 = true ∧ ∀ x ∈ l.take a.1, 0 ≤ x ∧ x ≤ 1000)) }) (m := false) mixed (fun a => [(4, eInts l), (5, .lit (.bool a.1.2)), (6, n' (a.1.1 : Nat))]) (fun _ => []) (fun a => l.length - a.1.1) 0 ⟨(0, is0), Nat.zero_le _, by simp⟩ (Nat.zero_le _) ?_ trivial ?_)
  ·exact ⟨⟨_, rfl, Weak.refl _ _, under_eInts _ _⟩, wp rfl trivial, wp rfl trivial, trivial⟩
  ·rintro ⟨⟨r, is⟩, hr, hI⟩
   have hr : r ≤ l.length := hr
   have hI : is = true ↔ (is0 = true ∧ ∀ x ∈ l.take r, 0 ≤ x ∧ x ≤ 1000) := hI
   refine If.mk (fun h1 => ?_) (fun h1 => ?_)
   ·refine ifY ?_
    have h1 : (r : Int) < (l.length : Nat) := h1
    have hr' : r < l.length := by omega
    obtain ⟨n, hx, etk, hm⟩ := at_some (l := l) (r := r) hr'
    cases is with
    | true =>
     refine Ex.mk _ (jx_ints (l := l) (r := r) rfl hx) ?_
     refine Ex.mk _ rfl ?_
     refine CallG.bool (c_in29 n 0 1000) (fun h => ?_) (fun h => ?_)
     ·refine Side.mk (show fitsK .i64 ((r : Int) + 1) from fits64 (by omega)) ?_
      refine ⟨leb rfl, rfl, ⟨(r + 1, true), by show r + 1 ≤ l.length; omega, ?_⟩, by show l.length - (r + 1) < l.length - r; omega, ⟨⟨_, rfl, Weak.refl _ _, under_eInts _ _⟩, wp rfl trivial, wp rfl trivial, trivial⟩, trivial, trivial⟩
      show true = true ↔ (is0 = true ∧ ∀ x ∈ l.take (r + 1), 0 ≤ x ∧ x ≤ 1000)
      refine ⟨fun _ => ⟨(hI.1 rfl).1, fun x hx' => ?_⟩, fun _ => rfl⟩
      rw [etk] at hx'
      rcases List.mem_append.1 hx' with hx' | hx'
      ·exact (hI.1 rfl).2 x hx'
      ·rw [List.mem_singleton.1 hx']; exact h
     ·refine Side.mk (show fitsK .i64 ((r : Int) + 1) from fits64 (by omega)) ?_
      refine ⟨leb rfl, rfl, ⟨(r + 1, false), by show r + 1 ≤ l.length; omega, ?_⟩, by show l.length - (r + 1) < l.length - r; omega, ⟨⟨_, rfl, Weak.refl _ _, under_eInts _ _⟩, wp rfl trivial, wp rfl trivial, trivial⟩, trivial, trivial⟩
      show false = true ↔ (is0 = true ∧ ∀ x ∈ l.take (r + 1), 0 ≤ x ∧ x ≤ 1000)
      refine ⟨(fun e => by cases e), fun h' => absurd (h'.2 n (by rw [etk]; simp)) h⟩
    | false =>
     refine Side.mk (show fitsK .i64 ((r : Int) + 1) from fits64 (by omega)) ?_
     refine ⟨leb rfl, rfl, ⟨(r + 1, false), by show r + 1 ≤ l.length; omega, ?_⟩, by show l.length - (r + 1) < l.length - r; omega, ⟨⟨_, rfl, Weak.refl _ _, under_eInts _ _⟩, wp rfl trivial, wp rfl trivial, trivial⟩, trivial, trivial⟩
     show false = true ↔ (is0 = true ∧ ∀ x ∈ l.take (r + 1), 0 ≤ x ∧ x ≤ 1000)
     refine ⟨(fun e => by cases e), fun h' => ?_⟩
     have := hI.2 ⟨h'.1, fun x hx' => h'.2 x (by rw [etk]; exact List.mem_append_left _ hx')⟩
     cases this
   ·refine ifN ?_
    have h1 : ¬ (r : Int) < (l.length : Nat) := h1
    obtain rfl : r = l.length := by omega
    rw [List.take_length] at hI
    refine ⟨leb rfl, .inl ⟨.inl rfl, _, ⟨l, is, ⟨⟨fun e => ?_, fun h => ?_⟩, fun e => ?_, hN3⟩, rfl⟩, FinG.mk _ rfl rfl ?_⟩⟩
    ·obtain ⟨g1, g2⟩ := hI.1 e
     exact (hN1 g1 g2).1
    ·obtain ⟨g1, g2⟩ := hN2 h
     refine hI.2 ⟨g1, ?_⟩
     rw [g2]; exact numsV_ok h
    ·obtain ⟨g1, g2⟩ := hI.1 e
     exact (hN1 g1 g2).2
    ·show AV.tup [AV.freeze _ (eInts l), .lit (.bool is)] = nmV l is
     rw [freeze_eInts]; rfl
end Go.Vm

namespace Go.Vm
open Go.Proofs Go.RowKit
theorem gBin_eqlY {P : Program} {t : TypeId} {Y : AV} {a b : ByteArray} {K : AV → Prop} (q : Bool) (hY : Y = sA b) (h : (a.toList == b.toList) = q) (k : K (.lit (.bool q))) : gBin P .eql t (.lit (.string a)) Y K := by
 subst hY
 subst h
 exact k
open Classical in
noncomputable def rparseV (l : List UInt8) : AV := if entryOk l then .tup [eEntry (entryE l), .lit (.bool true)] else .tup [zeroE, .lit (.bool false)]
def kindOk (l : List UInt8) (k : Int) : Prop := numsAll (restB l) ∧ headB l = wordsB.getD (k - 1).toNat [] ∧ (rmanyI k).1 ≤ ((restB l).length : Int) ∧ ((restB l).length : Int) ≤ (rmanyI k).2
theorem wordsB_inj {i j : Nat} (hi : i < 24) (hj : j < 24) (h : wordsB.getD i [] = wordsB.getD j []) : i = j := by
 have key : ∀ i, i < 24 → wordsB.idxOf (wordsB.getD i []) = i := by decide
 rw [← key i hi, ← key j hj, h]
theorem kindOk_iff {l : List UInt8} {k : Int} (hk : 1 ≤ k ∧ k ≤ 11) : kindOk l k ↔ entryOk l ∧ (entryE l).1 = k := by
 have hw24 : (k - 1).toNat < 24 := by omega
 constructor
 ·rintro ⟨h1, h2, h3, h4⟩
  have hm : headB l ∈ wordsB := by
   rw [h2, List.getD_eq_getElem?_getD, List.getElem?_eq_getElem (show (k - 1).toNat < wordsB.length from hw24)]
   exact List.getElem_mem _
  have hw : wordI l = (k - 1).toNat := by
   refine wordsB_inj (List.idxOf_lt_length_iff.2 hm) hw24 ?_
   rw [← h2]
   unfold wordI
   rw [List.getD_eq_getElem?_getD, List.getElem?_eq_getElem (List.idxOf_lt_length_iff.2 hm)]
   exact List.getElem_idxOf _
  have e : (entryE l).1 = k := by
   show 1 + (wordI l : Int) = k
   rw [hw]; omega
  refine ⟨⟨⟨hm, h1⟩, formed_iff.2 ⟨numsV_ok h1, ?_⟩⟩, e⟩
  rw [e]
  show (rmanyI k).1 ≤ ((numsV (restB l)).length : Int) ∧ ((numsV (restB l)).length : Int) ≤ (rmanyI k).2
  rw [numsV_len]
  exact ⟨h3, h4⟩
 ·rintro ⟨⟨⟨hm, h1⟩, hF⟩, e⟩
  have h3 := (formed_iff.1 hF).2
  rw [e] at h3
  have h3' : (rmanyI k).1 ≤ ((numsV (restB l)).length : Int) ∧ ((numsV (restB l)).length : Int) ≤ (rmanyI k).2 := h3
  rw [numsV_len] at h3'
  refine ⟨h1, ?_, h3'⟩
  have hw : (k - 1).toNat = wordI l := by
   have e' : 1 + (wordI l : Int) = k := e
   omega
  rw [hw]
  unfold wordI
  rw [List.getD_eq_getElem?_getD, List.getElem?_eq_getElem (List.idxOf_lt_length_iff.2 hm)]
  exact (List.getElem_idxOf _).symm
set_option maxHeartbeats 4000000 in
set_option maxRecDepth 100000 in
theorem c_rParse {l : List UInt8} (hl : l.length ≤ 500) (H : List Blk) : ACall Tryz.prog 15 [sA (bT l)] H (.ret (rparseV l)) H := by
 refine fn_rule (m := false) (fn := Tryz.f15) (c := (Tryz.f15.body).getD .skip) mixed (by kernel_rfl) (by kernel_rfl) (of_decide_eq_true (by kernel_rfl)) ?_ ?_ ?_ H
 ·exact ⟨trivial, trivial⟩
 ·unfold rparseV
  split
  ·exact ⟨under_eEntry _ _, trivial, trivial⟩
  ·exact ⟨⟨trivial, trivial, trivial⟩, trivial, trivial⟩
 ·have hrl := restB_len l
  refine CallG.pure _ (c_splitR l 32 (by omega)) ?_
  rw [spl_cons]
  refine Ex.mk _ (aop_slice (a := eStrs ((headB l :: restB l).map bT)) (l := some 1) (h := none) rfl rfl rfl rfl rfl rfl (slice_tailS (headB l) (restB l))) ?_
  obtain ⟨ns, is, ⟨hN1, hN2, hN3⟩, hc⟩ := c_numbered (L := restB l) (by omega) (fun u hu => by
   have := rest_len (c := 32) (l := l) (u := u) (by rw [spl_cons]; exact List.mem_cons_of_mem _ hu)
   omega)
  refine CallG.pure _ hc ?_
  cases is with
  | false =>
   have hno : ¬ numsAll (restB l) := fun h => by cases hN1.2 h
   refine LoopG.at (n0 := 1) rfl (loop_up mixed (m := false) (fun r => [(2, .ptr 0 0), (4, eStrs ((headB l :: restB l).map bT)), (5, eInts ns), (6, .lit (.bool false)), (7, n' ((r : Nat) + 1 : Int))]) (fun _ => [(0, .box [n' 0, .lit (.slice none 0 0)] 25)]) (fun _ => True) 11 1 (leb rfl) trivial ?_ ?_ ?_)
   ·exact ⟨wp rfl (ltb rfl), ⟨_, rfl, Weak.refl _ _, under_eStrs _ _⟩, ⟨_, rfl, Weak.refl _ _, under_eInts _ _⟩, wp rfl trivial, wp rfl trivial, trivial⟩
   ·exact ⟨bk rfl rfl, trivial⟩
   ·intro r hr _
    refine If.mk (fun h1 => ?_) (fun h1 => ?_)
    ·refine ifY ?_
     refine ifN ?_
     refine Side.mk (fits64 (by omega)) ?_
     exact ⟨leb rfl, rfl, by omega, trivial, ⟨wp rfl (ltb rfl), ⟨_, rfl, Weak.refl _ _, under_eStrs _ _⟩, ⟨_, rfl, Weak.refl _ _, under_eInts _ _⟩, wp rfl trivial, ⟨_, rfl, Weak.of_eq (congrArg n' (by omega)), trivial⟩, trivial⟩, ⟨bk rfl rfl, trivial⟩, trivial⟩
    ·refine ifN ?_
     have e : rparseV l = .tup [zeroE, .lit (.bool false)] := if_neg fun h => hno h.1.2
     rw [e]
     exact ⟨leb rfl, .inl rfl, FinG.mk _ rfl rfl rfl⟩
  | true =>
   have hall : numsAll (restB l) := hN1.1 rfl
   obtain rfl : ns = numsV (restB l) := hN2 rfl
   refine LoopG.at (n0 := 1) rfl (loop_up mixed (m := false) (fun r => [(2, .ptr 0 0), (4, eStrs ((headB l :: restB l).map bT)), (5, eInts (numsV (restB l))), (6, .lit (.bool true)), (7, n' ((r : Nat) + 1 : Int))]) (fun _ => [(0, .box [n' 0, .lit (.slice none 0 0)] 25)]) (fun r => ∀ k : Int, 1 ≤ k → k ≤ (r : Int) → ¬ kindOk l k) 11 0 (leb rfl) (fun k h1 h2 => by omega) ?_ ?_ ?_)
   ·exact ⟨wp rfl (ltb rfl), ⟨_, rfl, Weak.refl _ _, under_eStrs _ _⟩, ⟨_, rfl, Weak.refl _ _, under_eInts _ _⟩, wp rfl trivial, wp rfl trivial, trivial⟩
   ·exact ⟨bk rfl rfl, trivial⟩
   ·intro r hr hI
    refine If.mk (fun h1 => ?_) (fun h1 => ?_)
    ·refine ifY ?_
     have hk : (1 : Int) ≤ (r : Nat) + 1 ∧ ((r : Nat) + 1 : Int) ≤ 11 := by omega
     refine Ex.mk _ (jx_strs (l := (headB l :: restB l).map bT) (r := 0) (x := bT (headB l)) rfl rfl) ?_
     refine Ex.mk _ rfl ?_
     have hnext : ¬ kindOk l ((r : Nat) + 1) → ∀ k : Int, 1 ≤ k → k ≤ ((r + 1 : Nat) : Int) → ¬ kindOk l k := fun h k h1 h2 => by
      rcases Int.lt_or_le (r : Nat) k with h3 | h3
      ·obtain rfl : k = (r : Nat) + 1 := by omega
       exact h
      ·exact hI k h1 h3
     obtain ⟨Y, hY⟩ : ∃ Y, Y = sA (bT (wordsB.getD (((r : Nat) + 1 : Int) - 1).toNat [])) := ⟨_, rfl⟩
     refine CallG.pure Y (fun H => by rw [hY]; exact c_name hk H) ?_
     by_cases hw : headB l = wordsB.getD (((r : Nat) + 1 : Int) - 1).toNat []
     ·refine gBin_eqlY true hY (str_eq.2 (congrArg bT hw)) ?_
      refine CallG.pure _ (c_many30 ((r : Nat) + 1 : Int)) ?_
      refine CallG.pure _ (c_many30 ((r : Nat) + 1 : Int)) ?_
      refine CallG.bool (c_in29 ((numsV (restB l)).length : Nat) (rmanyI ((r : Nat) + 1 : Int)).1 (rmanyI ((r : Nat) + 1 : Int)).2) (fun h => ?_) (fun h => ?_)
      ·refine ifY ?_
       rw [numsV_len] at h
       obtain ⟨g1, g2⟩ := (kindOk_iff hk).1 ⟨hall, hw, h.1, h.2⟩
       have e : rparseV l = .tup [eEntry (entryE l), .lit (.bool true)] := if_pos g1
       rw [e]
       refine ⟨leb rfl, .inl rfl, FinG.mk _ rfl rfl ?_⟩
       show AV.tup [AV.agg [n' _, AV.freeze _ (eInts (numsV (restB l)))], .lit (.bool true)] = _
       rw [freeze_eInts]
       unfold eEntry cEntry
       rw [g2]; rfl
      ·refine ifN ?_
       rw [numsV_len] at h
       refine Side.mk (fits64 (by omega)) ?_
       exact ⟨leb rfl, rfl, by omega, hnext fun h' => h ⟨h'.2.2.1, h'.2.2.2⟩, ⟨wp rfl (ltb rfl), ⟨_, rfl, Weak.refl _ _, under_eStrs _ _⟩, ⟨_, rfl, Weak.refl _ _, under_eInts _ _⟩, wp rfl trivial, ⟨_, rfl, Weak.of_eq (congrArg n' (by omega)), trivial⟩, trivial⟩, ⟨bk rfl rfl, trivial⟩, trivial⟩
     ·refine gBin_eqlY false hY (Bool.eq_false_iff.2 fun h => hw (congrArg (fun b : ByteArray => b.data.toList) (str_eq.1 h))) ?_
      refine ifN ?_
      refine Side.mk (fits64 (by omega)) ?_
      exact ⟨leb rfl, rfl, by omega, hnext fun h' => hw h'.2.1, ⟨wp rfl (ltb rfl), ⟨_, rfl, Weak.refl _ _, under_eStrs _ _⟩, ⟨_, rfl, Weak.refl _ _, under_eInts _ _⟩, wp rfl trivial, ⟨_, rfl, Weak.of_eq (congrArg n' (by omega)), trivial⟩, trivial⟩, ⟨bk rfl rfl, trivial⟩, trivial⟩
    ·refine ifN ?_
     have e : rparseV l = .tup [zeroE, .lit (.bool false)] := if_neg fun h => by
      have hk := formed_kind h.2
      exact hI _ hk.1 (by omega) ((kindOk_iff hk).2 ⟨h, rfl⟩)
     rw [e]
     exact ⟨leb rfl, .inl rfl, FinG.mk _ rfl rfl rfl⟩
end Go.Vm

namespace Go.Vm
open Go.Proofs Go.RowKit
theorem spl_join (c : UInt8) : ∀ l : List UInt8, l = (spl c l).headD [] ++ (spl c l).tail.flatMap fun u => c :: u
 | [] => rfl
 | x :: l => by
  have ih := spl_join c l
  unfold spl
  split
  ·rename_i e
   subst e
   cases h : spl x l with
   | nil => exact absurd h (spl_ne x l)
   | cons a t =>
    rw [h] at ih
    show x :: l = [] ++ (List.flatMap (fun u => x :: u) (a :: t))
    rw [List.flatMap_cons, List.nil_append, List.cons_append]
    exact congrArg (x :: ·) ih
  ·cases h : spl c l with
   | nil => exact absurd h (spl_ne c l)
   | cons a t =>
    rw [h] at ih
    exact congrArg (x :: ·) ih
theorem line_back {l : List UInt8} (h : entryOk l) : lineE (entryE l) = l := by
 have hj : l = headB l ++ (restB l).flatMap fun u => 32 :: u := spl_join 32 l
 have hw : wordsB.getD ((entryE l).1 - 1).toNat [] = headB l := by
  have e : ((entryE l).1 - 1).toNat = wordI l := by
   show ((1 + (wordI l : Int)) - 1).toNat = _
   omega
  rw [e]
  unfold wordI
  have hlt := List.idxOf_lt_length_iff.2 h.1.1
  rw [List.getD_eq_getElem?_getD, List.getElem?_eq_getElem hlt]
  exact List.getElem_idxOf hlt
 have ht : ∀ us : List (List UInt8), numsAll us → tailB (numsV us) = us.flatMap fun u => 32 :: u := by
  intro us
  induction us with
  | nil => intro _; rfl
  | cons u us ih =>
   intro hus
   obtain ⟨n, hn⟩ := hus u (by simp)
   have e1 : tailB (numsV (u :: us)) = (32 :: decN (numV u).toNat) ++ tailB (numsV us) := rfl
   rw [e1, ih fun v hv => hus v (by simp [hv]), List.flatMap_cons, ← numV_of hn, Int.toNat_natCast, (numD_some hn).2.2.1]
 unfold lineE
 rw [hw, show (entryE l).2 = numsV (restB l) from rfl, ht _ h.1.2]
 exact hj.symm
theorem wk_zeroE (H : List Blk) : WeakH H zeroE (eEntry (0, [])) := fun O ι w x h => by
 unfold zeroE at h
 unfold eEntry cEntry
 simp only [VRel] at h ⊢
 obtain ⟨C, hc, hr⟩ := h
 refine ⟨C, hc, ?_⟩
 obtain ⟨l⟩ := C
 match l, hr with
 | [a, d], hr =>
  simp only [VRels] at hr ⊢
  exact ⟨hr.1, WeakH.nil H O ι w d hr.2.1, trivial⟩
 | [], hr => simp [VRels] at hr
 | [_], hr => simp [VRels] at hr
 | _ :: _ :: _ :: _, hr => simp [VRels] at hr
theorem c_sameZ (x : EntryD) (ha : x.2.length < 9223372036854775808) (H : List Blk) : ACall Tryz.prog 14 [eEntry x, eEntry x] H (.ret (.lit (.bool true))) H := by
 have h := c_sameE x x ha H
 rw [decide_eq_true rfl] at h
 exact h
set_option maxHeartbeats 4000000 in
set_option maxRecDepth 100000 in
theorem parses_law (hk : ∀ H, ACall Tryz.prog 6 [] H (.ret (.lit (.bool true))) H) (l : List UInt8) (H : List Blk) : ACall Tryz.prog 5 [sA (bT l)] H (.ret (.lit (.bool true))) H := by
 refine fn_rule (m := false) (fn := Tryz.f5) (c := (Tryz.f5.body).getD .skip) mixed (by kernel_rfl) (by kernel_rfl) (of_decide_eq_true (by kernel_rfl)) ?_ ?_ ?_ H
 ·exact ⟨trivial, trivial⟩
 ·trivial
 ·have hsz : (bT l).size = l.length := rfl
  refine If.mk (fun h1 => ?_) (fun h1 => ?_)
  ·refine ifY ?_
   refine CallG.pure _ hk ?_
   exact ⟨.inl rfl, FinG.mk _ rfl rfl rfl⟩
  ·refine ifN ?_
   have hl : l.length ≤ 100 := by omega
   refine CallG.pure _ (c_Parse (l := l) (by omega)) ?_
   by_cases h40 : 40 < l.length
   ·have e : parseV l = .tup [zeroE, n' 3] := if_pos h40
    rw [e]
    refine CallG.pure _ (c_rParse (l := l) (by omega)) ?_
    by_cases hE : entryOk l
    ·have e2 : rparseV l = .tup [eEntry (entryE l), .lit (.bool true)] := if_pos hE
     rw [e2]
     refine If.mk (fun _ => ?_) (fun h => absurd (by omega) h)
     refine ifY ?_
     refine If.mk (fun h => absurd h (by decide)) (fun _ => ?_)
     refine ifY ?_
     refine If.mk (fun _ => ?_) (fun h => absurd (by decide) h)
     refine CallG.weak _ (.cons (fun H => wk_zeroE H) (.cons (fun H => wk_zeroE H) .nil)) (c_sameZ (0, []) (by decide)) ?_
     refine CallG.pure _ hk ?_
     exact ⟨.inl rfl, FinG.mk _ rfl rfl rfl⟩
    ·have e2 : rparseV l = .tup [zeroE, .lit (.bool false)] := if_neg hE
     rw [e2]
     refine If.mk (fun _ => ?_) (fun h => absurd (by omega) h)
     refine ifY ?_
     refine If.mk (fun h => absurd h (by decide)) (fun _ => ?_)
     refine ifY ?_
     refine If.mk (fun _ => ?_) (fun h => absurd (by decide) h)
     refine CallG.weak _ (.cons (fun H => wk_zeroE H) (.cons (fun H => wk_zeroE H) .nil)) (c_sameZ (0, []) (by decide)) ?_
     refine CallG.pure _ hk ?_
     exact ⟨.inl rfl, FinG.mk _ rfl rfl rfl⟩
   ·by_cases hE : entryOk l
    ·have e : parseV l = .tup [eEntry (entryE l), n' 0] := by
      unfold parseV
      rw [if_neg h40, if_pos hE]
     have e2 : rparseV l = .tup [eEntry (entryE l), .lit (.bool true)] := if_pos hE
     rw [e]
     refine CallG.pure _ (c_rParse (l := l) (by omega)) ?_
     rw [e2]
     refine If.mk (fun h => absurd h (by omega)) (fun _ => ?_)
     refine ifN ?_
     refine ifN ?_
     refine If.mk (fun _ => ?_) (fun h => absurd (by decide) h)
     refine ifN ?_
     have hlen : (entryE l).2.length < 4611686018427387904 := by
      show (numsV (restB l)).length < _
      rw [numsV_len]
      have := restB_len l
      omega
     obtain ⟨X, hX⟩ : ∃ X, X = sA (bT l) := ⟨_, rfl⟩
     refine CallG.pure (.tup [X, n' 0]) (fun H => by
      have := c_Write (x := entryE l) hlen H
      rw [if_pos hE.2, line_back hE, ← hX] at this
      exact this) ?_
     refine If.mk (fun _ => ?_) (fun h => absurd (by decide) h)
     refine CallG.pure _ (c_sameZ (entryE l) (by omega)) ?_
     refine If.mk (fun _ => ?_) (fun h => absurd (by decide) h)
     refine gBin_eqlX true hX (str_eq.2 rfl) ?_
     refine CallG.pure _ hk ?_
     exact ⟨.inl rfl, FinG.mk _ rfl rfl rfl⟩
    ·have e : parseV l = .tup [zeroE, n' 4] := by
      unfold parseV
      rw [if_neg h40, if_neg hE]
     have e2 : rparseV l = .tup [zeroE, .lit (.bool false)] := if_neg hE
     rw [e]
     refine CallG.pure _ (c_rParse (l := l) (by omega)) ?_
     rw [e2]
     refine If.mk (fun h => absurd h (by omega)) (fun _ => ?_)
     refine ifN ?_
     refine ifY ?_
     refine If.mk (fun h => absurd h (by decide)) (fun _ => ?_)
     refine ifY ?_
     refine If.mk (fun _ => ?_) (fun h => absurd (by decide) h)
     refine CallG.weak _ (.cons (fun H => wk_zeroE H) (.cons (fun H => wk_zeroE H) .nil)) (c_sameZ (0, []) (by decide)) ?_
     refine CallG.pure _ hk ?_
     exact ⟨.inl rfl, FinG.mk _ rfl rfl rfl⟩
end Go.Vm

namespace Go.Vm
open Go.Proofs Go.RowKit
noncomputable def toldBy (F : List AV → Option AV) : CallT → CallT := fun _ _ args t n => match F args with
 | some v => .ret v t n noLo
 | none => .fail "told"
theorem toldBy_right {F : List AV → Option AV} {f : FuncId} (h : ∀ args v, F args = some v → ∀ H, ACall Tryz.prog f args H (.ret v) H) (call : CallT) (args : List AV) (t : Trie Blk) (n : Nat) : CRok Tryz.prog f args t n (toldBy F call f args t n) := by
 unfold toldBy
 cases hF : F args with
 | none => trivial
 | some v => exact fun H hH => ⟨H, hH, h args v hF H, Keep.refl _ _⟩
noncomputable def fIndexByte : List AV → Option AV
 | [.lit (.string s), .lit (.int .u8 c)] => some (n' (Lib.indexByte s.data.toList c.toNat.toUInt8))
 | _ => none
theorem fIndexByte_right (args : List AV) (v : AV) (h : fIndexByte args = some v) (H : List Blk) : ACall Tryz.prog 144 args H (.ret v) H := by
 unfold fIndexByte at h
 split at h
 ·rename_i s c
  cases h
  exact ACall.of_pure (vs := [.string s, .int .u8 c]) fun w => Tryz.stringslite_IndexByte s c w
 ·cases h
def decK (n : Nat) : List UInt8 :=
 bif Nat.blt n 10 then [UInt8.ofNat (48 + n)] else bif Nat.blt n 100 then [UInt8.ofNat (48 + n / 10), UInt8.ofNat (48 + n % 10)] else
 bif Nat.blt n 1000 then [UInt8.ofNat (48 + n / 10 / 10), UInt8.ofNat (48 + n / 10 % 10), UInt8.ofNat (48 + n % 10)] else
 [UInt8.ofNat (48 + n / 10 / 10 / 10), UInt8.ofNat (48 + n / 10 / 10 % 10), UInt8.ofNat (48 + n / 10 % 10), UInt8.ofNat (48 + n % 10)]
theorem decK_eq {n : Nat} (h : n < 10000) : decK n = decN n := by
 unfold decK
 cases h1 : Nat.blt n 10 with
 | true => rw [cond_true, decN_lt (Nat.le_of_ble_eq_true h1)]
 | false =>
  have h1 : 10 ≤ n := Nat.le_of_not_lt fun hl => by rw [show Nat.blt n 10 = true from Nat.ble_eq_true_of_le hl] at h1; cases h1
  rw [cond_false, decN_ge h1]
  cases h2 : Nat.blt n 100 with
  | true =>
   have h2 : n < 100 := Nat.le_of_ble_eq_true h2
   rw [cond_true, decN_lt (by omega)]; rfl
  | false =>
   have h2 : 100 ≤ n := Nat.le_of_not_lt fun hl => by rw [show Nat.blt n 100 = true from Nat.ble_eq_true_of_le hl] at h2; cases h2
   rw [cond_false, decN_ge (n := n / 10) (by omega)]
   cases h3 : Nat.blt n 1000 with
   | true =>
    have h3 : n < 1000 := Nat.le_of_ble_eq_true h3
    rw [cond_true, decN_lt (by omega)]; rfl
   | false =>
    have h3 : 1000 ≤ n := Nat.le_of_not_lt fun hl => by rw [show Nat.blt n 1000 = true from Nat.ble_eq_true_of_le hl] at h3; cases h3
    rw [cond_false, decN_ge (n := n / 10 / 10) (by omega), decN_lt (by omega)]; rfl
noncomputable def fItoa : List AV → Option AV
 | [.lit (.int .i64 (.ofNat n))] => bif Nat.ble n 9999 then some (sA (bT (decK n))) else none
 | [.lit (.int .i64 (.negSucc 0))] => some (sA (bT [45, 49]))
 | _ => none
theorem fItoa_right (args : List AV) (v : AV) (h : fItoa args = some v) (H : List Blk) : ACall Tryz.prog 111 args H (.ret v) H := by
 unfold fItoa at h
 split at h
 ·rename_i n
  cases hn : Nat.ble n 9999 with
  | false => rw [hn] at h; cases h
  | true =>
   rw [hn] at h
   cases h
   have hn := Nat.le_of_ble_eq_true hn
   rw [decK_eq (by omega)]
   exact c_itoaN (by omega) H
 ·cases h
  have e : Lib.itoa (-1) = [45, 49] := by
   unfold Lib.itoa
   rw [if_pos (by decide)]
   exact congrArg (45 :: ·) (decN_lt (n := 1) (by decide))
  have := c_itoa (n := -1) (by decide) (by decide) H
  rw [e] at this
  exact this
 ·cases h
noncomputable def fJoin : List AV → Option AV
 | [.sl n cells _, .lit (.string sep)] => match strsOf cells with
  | some xs => bif Nat.beq n cells.length && Nat.ble xs.length 65536 && Nat.ble (joinS xs sep).size 16777216 then some (sA (joinS xs sep)) else none
  | none => none
 | _ => none
theorem strsOf_eq : ∀ {cells : List AV} {xs : List ByteArray}, strsOf cells = some xs → cells = xs.map sA
 | [], xs, h => by cases h; rfl
 | .lit (.string s) :: r, xs, h => by
  have h' : (strsOf r).map (s :: ·) = some xs := h
  cases hr : strsOf r with
  | none => rw [hr] at h'; cases h'
  | some ys => rw [hr] at h'; cases h'; rw [strsOf_eq hr]; rfl
theorem fJoin_right (args : List AV) (v : AV) (h : fJoin args = some v) (H : List Blk) : ACall Tryz.prog 112 args H (.ret v) H := by
 unfold fJoin at h
 split at h
 ·rename_i n cells tail sep
  cases hs : strsOf cells with
  | none => rw [hs] at h; cases h
  | some xs =>
   rw [hs] at h
   simp only at h
   cases hb : (Nat.beq n cells.length && Nat.ble xs.length 65536 && Nat.ble (joinS xs sep).size 16777216) with
   | false => rw [hb] at h; cases h
   | true =>
    rw [hb] at h
    cases h
    rw [Bool.and_eq_true, Bool.and_eq_true] at hb
    have e1 := Nat.eq_of_beq_eq_true hb.1.1
    have e2 := strsOf_eq hs
    have := c_join (xs := xs) (sep := sep) tail (Nat.le_of_ble_eq_true hb.1.2) (Nat.le_of_ble_eq_true hb.2) H
    rw [e1, e2, List.length_map]
    exact this
 ·cases h
noncomputable def fSplit : List AV → Option AV
 | [.lit (.string s), .lit (.string sep)] => match sep.data.toList with
  | [c] => bif Nat.ble s.size 60000 then some (eStrs ((spl c s.data.toList).map bT)) else none
  | _ => none
 | _ => none
theorem fSplit_right (args : List AV) (v : AV) (h : fSplit args = some v) (H : List Blk) : ACall Tryz.prog 137 args H (.ret v) H := by
 unfold fSplit at h
 split at h
 ·rename_i s sep
  split at h
  ·rename_i c hc
   cases hb : Nat.ble s.size 60000 with
   | false => rw [hb] at h; cases h
   | true =>
    rw [hb] at h
    cases h
    have e : sep = ⟨#[c]⟩ := by
     obtain ⟨⟨l⟩⟩ := sep
     have hc' : l = [c] := hc
     rw [hc']
    rw [e]
    exact c_split s.data.toList c (by
     have := Nat.le_of_ble_eq_true hb
     show s.data.toList.length ≤ 60000
     rw [Array.length_toList]; exact this) H
  ·cases h
 ·cases h
noncomputable def kTold0 (f : FuncId) : Option (CallT → CallT) :=
 bif Nat.beq f 25 then some (tryD Tryz.prog dGoes) else bif Nat.beq f 135 then some (tryD Tryz.prog dChest) else bif Nat.beq f 180 then some (tryD Tryz.prog dCue) else
 bif Nat.beq f 195 then some (tryD Tryz.prog dStem) else bif Nat.beq f 216 then some (tryD Tryz.prog dNight) else
 bif Nat.beq f 144 then some (toldBy fIndexByte) else bif Nat.beq f 111 then some (toldBy fItoa) else bif Nat.beq f 112 then some (toldBy fJoin) else bif Nat.beq f 137 then some (toldBy fSplit) else bif Nat.beq f 154 then some toldSolve else none
theorem kTold0_right {f : FuncId} {T : CallT → CallT} (h : kTold0 f = some T) {call : CallT} (hc : SoundC Tryz.prog call) (args : List AV) (t : Trie Blk) (n : Nat) : CRok Tryz.prog f args t n (T call f args t n) := by
 unfold kTold0 at h
 cases h1 : Nat.beq f 25 with
 | true => rw [h1, cond_true] at h; cases h; rw [Nat.eq_of_beq_eq_true h1]; exact tryD_right dGoes_ok hc args t n
 | false =>
 rw [h1, cond_false] at h
 cases h1 : Nat.beq f 135 with
 | true => rw [h1, cond_true] at h; cases h; rw [Nat.eq_of_beq_eq_true h1]; exact tryD_right dChest_ok hc args t n
 | false =>
 rw [h1, cond_false] at h
 cases h1 : Nat.beq f 180 with
 | true => rw [h1, cond_true] at h; cases h; rw [Nat.eq_of_beq_eq_true h1]; exact tryD_right dCue_ok hc args t n
 | false =>
 rw [h1, cond_false] at h
 cases h1 : Nat.beq f 195 with
 | true => rw [h1, cond_true] at h; cases h; rw [Nat.eq_of_beq_eq_true h1]; exact tryD_right dStem_ok hc args t n
 | false =>
 rw [h1, cond_false] at h
 cases h1 : Nat.beq f 216 with
 | true => rw [h1, cond_true] at h; cases h; rw [Nat.eq_of_beq_eq_true h1]; exact tryD_right dNight_ok hc args t n
 | false =>
 rw [h1, cond_false] at h
 cases h1 : Nat.beq f 144 with
 | true => rw [h1, cond_true] at h; cases h; rw [Nat.eq_of_beq_eq_true h1]; exact toldBy_right fIndexByte_right call args t n
 | false =>
 rw [h1, cond_false] at h
 cases h1 : Nat.beq f 111 with
 | true => rw [h1, cond_true] at h; cases h; rw [Nat.eq_of_beq_eq_true h1]; exact toldBy_right fItoa_right call args t n
 | false =>
 rw [h1, cond_false] at h
 cases h1 : Nat.beq f 112 with
 | true => rw [h1, cond_true] at h; cases h; rw [Nat.eq_of_beq_eq_true h1]; exact toldBy_right fJoin_right call args t n
 | false =>
 rw [h1, cond_false] at h
 cases h1 : Nat.beq f 137 with
 | true => rw [h1, cond_true] at h; cases h; rw [Nat.eq_of_beq_eq_true h1]; exact toldBy_right fSplit_right call args t n
 | false =>
 rw [h1, cond_false] at h
 cases h1 : Nat.beq f 154 with
 | true => rw [h1, cond_true] at h; cases h; exact toldSolve_right mixed f hc args t n
 | false => rw [h1, cond_false] at h; cases h
end Go.Vm

namespace Go.Vm
open Go.Proofs Go.RowKit
theorem c_suffix (s p : ByteArray) (hs : s.size ≤ 9223372036854775807) (H : List Blk) : ACall Tryz.prog 39 [sA s, sA p] H (.ret (.lit (.bool (Lib.hasSuffix s.data.toList p.data.toList)))) H :=
 ACall.of_pure (vs := [.string s, .string p]) fun w => Tryz.strings_HasSuffix s p w hs
theorem c_trimSuffix (s p : ByteArray) (hs : s.size ≤ 9223372036854775807) (H : List Blk) : ACall Tryz.prog 42 [sA s, sA p] H (.ret (sA ⟨(Lib.trimSuffix s.data.toList p.data.toList).toArray⟩)) H :=
 ACall.of_pure (vs := [.string s, .string p]) fun w => Tryz.strings_TrimSuffix s p w hs
def scr (L : List (List UInt8)) : List UInt8 := L.flatMap fun l => l ++ [10]
theorem scr_suffix : ∀ {L : List (List UInt8)}, scr L ≠ [] → Lib.hasSuffix (scr L) [10] = true
 | [], h => absurd rfl h
 | [l], _ => by
  unfold Lib.hasSuffix scr
  rw [List.isSuffixOf_iff_suffix]
  exact ⟨l, by simp⟩
 | l :: l2 :: L, _ => by
  have ih := scr_suffix (L := l2 :: L) (fun h => by simp [scr] at h)
  unfold Lib.hasSuffix at ih ⊢
  rw [List.isSuffixOf_iff_suffix] at ih ⊢
  refine ih.trans ⟨l ++ [10], ?_⟩
  rfl
theorem scr_cons (l : List UInt8) (L : List (List UInt8)) : scr (l :: L) = l ++ [10] ++ scr L := rfl
theorem index_scr : ∀ {l : List UInt8} (X : List UInt8), 10 ∉ l → Lib.indexByte (l ++ [10] ++ X) 10 = l.length
 | [], X, _ => by simp [Lib.indexByte]
 | b :: l, X, h => by
  have ih := index_scr X (l := l) fun hm => h (List.mem_cons_of_mem _ hm)
  have hb : (b == 10) = false := by
   rw [beq_eq_false_iff_ne]
   intro e
   exact h (by rw [e]; exact List.mem_cons_self)
  show (if b == 10 then 0 else if Lib.indexByte (l ++ [10] ++ X) 10 == -1 then -1 else Lib.indexByte (l ++ [10] ++ X) 10 + 1) = _
  rw [hb, ih]
  have h2 : ((l.length : Int) == -1) = false := by rw [beq_eq_false_iff_ne]; omega
  rw [h2]
  simp
set_option maxRecDepth 100000 in
theorem c_index84 (l : List UInt8) (hl : l.length ≤ 1000000) (H : List Blk) : ACall Tryz.prog 84 [sA (bT l), .lit (.int .u8 10)] H (.ret (n' (Lib.indexByte l 10))) H := by
 refine fn_rule (m := false) (fn := Tryz.f84) (c := (Tryz.f84.body).getD .skip) mixed (by kernel_rfl) (by kernel_rfl) (of_decide_eq_true (by kernel_rfl)) ?_ ?_ ?_ H
 ·exact ⟨trivial, trivial, trivial⟩
 ·exact trivial
 ·refine CallG.pure _ (fun H => ACall.of_pure (vs := [.string (bT l), .int .u8 10]) fun w => Tryz.stringslite_IndexByte (bT l) 10 w) ?_
  exact ⟨.inl rfl, FinG.mk _ rfl rfl rfl⟩
theorem scr_drop : ∀ (L : List (List UInt8)) (r : Nat), (scr (L.drop r)).length ≤ (scr L).length
 | _, 0 => Nat.le_refl _
 | [], r + 1 => Nat.le_refl _
 | l :: L, r + 1 => by
  have ih := scr_drop L r
  rw [List.drop_succ_cons, scr_cons, List.length_append]
  omega
def outL (ans : Nat → List UInt8) (r : Nat) : List UInt8 := (List.range r).flatMap fun i => ans i ++ [10]
structure SuiteA where
 (b a1 a2 b1 b2 c1 c2 : Int)
 scs : AV
 (cu tu : Int)
 vs : AV
 lf : Int
 (hts figs scenes kinds hides : AV)
 (al ah cl ch off mends room depth : Int)
 cfigs : AV
def SuiteA.cells (s : SuiteA) : List AV := [n' s.b, n' s.a1, n' s.a2, n' s.b1, n' s.b2, n' s.c1, n' s.c2, s.scs, n' s.cu, n' s.tu, s.vs, n' s.lf, s.hts, s.figs, s.scenes, s.kinds, s.hides, n' s.al, n' s.ah, n' s.cl, n' s.ch, n' s.off, n' s.mends, n' s.room, n' s.depth, s.cfigs]
def SuiteA.av (s : SuiteA) : AV := .agg s.cells
def deskC (s : SuiteA) (e : AV) : List AV := .lit (.bool true) :: s.cells ++ [e]
set_option maxRecDepth 100000 in
theorem c_Open0 {s s' : SuiteA} (h81 : ∀ H, ACall Tryz.prog 81 [s.av] H (.ret (.lit (.bool true))) H) (h60 : ∀ H, ACall Tryz.prog 60 [s.av] H (.ret s'.av) H) {t : Trie Blk} (H : List Blk) (hH : HT t 1 H) :
  ∃ H', HT (setL t [(1, .box s.cells 52), (2, .box (deskC s' (.lit (.slice none 0 0))) 55)]) 3 H' ∧ ACall Tryz.prog 38 [s.av] H (.ret (.tup [.ptr 2 0, n' 0])) H' ∧ Keep H H' noLo := by
 refine fn_new (m := false) (fn := Tryz.f38) (c := (Tryz.f38.body).getD .skip) mixed (by kernel_rfl) (by kernel_rfl) (of_decide_eq_true (by kernel_rfl)) ?_ H hH
 refine CallG.pure _ h81 ?_
 refine ifN ?_
 refine CallG.pure _ h60 ?_
 exact ⟨.inl rfl, leb rfl, rfl, ⟨bk rfl rfl, bk rfl rfl, trivial⟩, FinF.mk _ rfl rfl rfl⟩
theorem VRels.last [Outer] {S : Sit} {x y : AV} (hw : ∀ c, VRel S x c → VRel S y c) : ∀ (l : List AV) (cs : List Value), VRels S (l ++ [x]) cs → VRels S (l ++ [y]) cs
 | [], [], h => by simp only [List.nil_append, VRels] at h
 | [], c :: cs, h => by simp only [List.nil_append, VRels] at h ⊢; exact ⟨hw c h.1, h.2⟩
 | a :: l, [], h => by simp only [List.cons_append, VRels] at h
 | a :: l, c :: cs, h => by simp only [List.cons_append, VRels] at h ⊢; exact ⟨h.1, VRels.last hw l cs h.2⟩
theorem c_Open1 {s s' : SuiteA} (h81 : ∀ H, ACall Tryz.prog 81 [s.av] H (.ret (.lit (.bool true))) H) (h60 : ∀ H, ACall Tryz.prog 60 [s.av] H (.ret s'.av) H) {t : Trie Blk} (H : List Blk) (hH : HT t 1 H) :
  ∃ H', HT (setL t [(2, .box (deskC s' (.sl 0 [] (.own 3 0 2))) 55), (3, .row 0), (1, .box s.cells 52), (2, .box (deskC s' (.lit (.slice none 0 0))) 55)]) 4 H' ∧ ACall Tryz.prog 38 [s.av] H (.ret (.tup [.ptr 2 0, n' 0])) H' ∧ Keep H H' noLo := by
 obtain ⟨H', h1, h2, h3⟩ := c_Open0 h81 h60 H hH
 have hl := h1.len
 have hl0 := hH.len
 have hid : H'[2]? = some (.box (deskC s' (.lit (.slice none 0 0))) 55) := h1.blk 2 _ (by
  show get (set (set t 2 _) 1 _) 2 = _
  rw [get_set_other _ _ _ _ (by omega), get_set_same])
 have hid2 : (H' ++ [.row 0])[2]? = some (.box (deskC s' (.lit (.slice none 0 0))) 55) := by rw [List.getElem?_append_left (by omega)]; exact hid
 have hrow : (H' ++ [.row 0])[3]? = some (.row 0) := by rw [List.getElem?_append_right (by omega), show 3 - H'.length = 0 by omega]; rfl
 have hm := h2.more (.row 0) (v' := .tup [.ptr 2 0, n' 0]) (fun _ _ _ _ h => h) rfl
 have hx := hm.boxL (cells' := deskC s' (.sl 0 [] (.own 3 0 2))) hid2 fun O ι w cs h => VRels.last (fun c hc => WeakH.own 2 hrow O ι w c hc) _ _ h
 refine ⟨_, (h1.push (.row 0)).set (by omega) _, hx, ⟨?_, fun id _ hlt => ?_, fun id hd => ?_⟩⟩
 ·have := h3.le; simp; omega
 ·rw [List.getElem?_set_ne (by omega), List.getElem?_append_left (by omega)]
  exact h3.low id (by assumption) hlt
 ·have hlt := (List.getElem?_eq_some_iff.1 hd).1
  rw [List.getElem?_set_ne (by omega), List.getElem?_append_left (by omega)]
  exact h3.marks id hd
def coT (s s' : SuiteA) (e : AV) (g : Nat) (out left : List UInt8) : List (Nat × Blk) := [(0, .box s.cells 52), (1, .box s.cells 52), (2, .box (deskC s' e) 55), (3, .row g), (4, .box [.ptr 2 0] 30), (5, .box [sA (bT out)] 9), (6, .box [sA (bT left)] 9)]
def coP (s s' : SuiteA) (e : AV) (g : Nat) : List (Nat × Blk) := [(0, .box s.cells 52), (1, .box s.cells 52), (2, .box (deskC s' e) 55), (3, .row g)]
def coS : List (Nat × AV) := [(6, .ptr 4 0), (8, .ptr 5 0), (29, .fn (.func 83) [] [.ptr 6 0])]
noncomputable def coR (st : LoopState) : Blk := lpB Tryz.f16 st coS 7
theorem outL_succ (ans : Nat → List UInt8) (r : Nat) : outL ans (r + 1) = outL ans r ++ (ans r ++ [10]) := by
 unfold outL
 rw [List.range_succ, List.flatMap_append]
 simp
theorem trim_nl (l : List UInt8) : Lib.trimSuffix (l ++ [10]) [10] = l := by
 unfold Lib.trimSuffix
 rw [if_pos (by unfold Lib.hasSuffix; rw [List.isSuffixOf_iff_suffix]; exact ⟨l, rfl⟩), List.length_append]
 exact List.take_left
theorem under_coR (st : LoopState) : (coR st).under 9 := under_lpB ⟨ltb rfl, ltb rfl, ⟨trivial, ltb rfl, trivial⟩, trivial⟩ (ltb rfl)
theorem under_desk {s' : SuiteA} {e : AV} (n : Nat) (hn : 4 ≤ n) (hus : AV.unders 0 s'.cells) (he : e.under 4) : AV.unders n (deskC s' e) := AV.unders_mem.2 fun a ha => by
 rcases List.mem_append.1 ha with ha | ha
 ·rcases List.mem_cons.1 ha with rfl | ha
  ·exact trivial
  ·exact AV.under_mono (Nat.zero_le _) a (AV.unders_mem.1 hus a ha)
 ·rw [List.mem_singleton.1 ha]; exact AV.under_mono hn _ he
theorem under_coP {s s' : SuiteA} {e : AV} {g : Nat} (hu : AV.unders 0 s.cells) (hus : AV.unders 0 s'.cells) (he : e.under 4) : ∀ q ∈ coP s s' e g, q.2.under 4 := fun q hq => by
 have h1 : ∀ {l : List AV}, AV.unders 0 l → AV.unders 4 l := fun h => AV.unders_mem.2 fun a ha => AV.under_mono (by omega) a (AV.unders_mem.1 h a ha)
 rcases List.mem_cons.1 hq with rfl | hq
 ·exact h1 hu
 ·rcases List.mem_cons.1 hq with rfl | hq
  ·exact h1 hu
  ·rcases List.mem_cons.1 hq with rfl | hq
   ·exact under_desk 4 (Nat.le_refl _) hus he
   ·rcases List.mem_cons.1 hq with rfl | hq
    ·trivial
    ·cases hq
set_option maxHeartbeats 4000000 in
set_option maxRecDepth 100000 in
theorem c_ConsoleG {s s' : SuiteA} {L : List (List UInt8)} {E : Nat → AV} {G : Nat → Nat} {ans : Nat → List UInt8} (hL : ∀ l ∈ L, 10 ∉ l) (hlen : (scr L).length ≤ 1000) (hout : ∀ r, r ≤ L.length → (outL ans r).length ≤ 1000000)
  (hu : AV.unders 0 s.cells) (h81 : ∀ H, ACall Tryz.prog 81 [s.av] H (.ret (.lit (.bool true))) H) (h60 : ∀ H, ACall Tryz.prog 60 [s.av] H (.ret s'.av) H) (hE : E 0 = .sl 0 [] (.own 3 0 2)) (hG : G 0 = 0) (hus : AV.unders 0 s'.cells) (hEu : ∀ r, (E r).under 4)
  (hstep : ∀ r (hr : r < L.length), ACall Tryz.prog 41 [.ptr 2 0, sA (bT L[r])] (hp (coP s s' (E r) (G r))) (.ret (sA (bT (ans r)))) (hp (coP s s' (E (r + 1)) (G (r + 1)))))
  (H : List Blk) : ACall Tryz.prog 16 [s.av, sA (bT (scr L))] H (.ret (.tup [sA (bT (outL ans L.length)), n' 0])) H := by
 obtain ⟨X, hX⟩ : ∃ X, X = sA (bT (scr L)) := ⟨_, rfl⟩
 rw [← hX]
 refine fn_ruleM (m := false) (fn := Tryz.f16) (c := (Tryz.f16.body).getD .skip) mixed (by kernel_rfl) (by kernel_rfl) (of_decide_eq_true (by kernel_rfl)) ?_ ?_ ?_ H
 ·exact ⟨hu, by rw [hX]; trivial, trivial⟩
 ·exact ⟨trivial, trivial, trivial⟩
 ·refine CallG.fresh (n0 := 1) [s.av] [(0, .box s.cells 52)] rfl (.cons (fun H => WeakH.refl _ H) .nil) ⟨bk rfl rfl, trivial⟩ ?_
  refine CallG.new (n1 := 4) (L1 := [(2, .box (deskC s' (.sl 0 [] (.own 3 0 2))) 55), (3, .row 0), (1, .box s.cells 52), (2, .box (deskC s' (.lit (.slice none 0 0))) 55)]) (.tup [.ptr 2 0, n' 0]) (fun H hH => c_Open1 h81 h60 H hH) ?_
  refine If.mk (fun _ => ?_) (fun h => absurd (by decide) h)
  refine ifN ?_
  refine now_of (r := .val (n' (scr L).length) .same) (by rw [hX]; rfl) ?_
  refine If.mk (fun h => absurd h (by omega)) (fun _ => ?_)
  refine ifN ?_
  rcases hq : ((bT (scr L)).toList == (⟨#[]⟩ : ByteArray).toList) with _ | _
  rotate_left
  case' refine_3.true =>
   refine gBin_neqX true hX hq ?_
   refine ifN ?_
  case' refine_3.false =>
   refine gBin_neqX false hX hq ?_
   refine CallG.pure (.lit (.bool true)) (fun H => by
    have h := c_suffix (bT (scr L)) ⟨#[10]⟩ (by rw [bT_size]; omega) H
    have e : Lib.hasSuffix (bT (scr L)).data.toList (⟨#[10]⟩ : ByteArray).data.toList = true := scr_suffix (fun h => by
     rw [h, show ((bT []).toList == (⟨#[]⟩ : ByteArray).toList) = true from str_eq.2 rfl] at hq
     cases hq)
    rw [e, ← hX] at h
    exact h) ?_
   refine ifN ?_
  all_goals
   refine CallG.inline (m := false) (fn := Tryz.f40) (c := (Tryz.f40.body).getD .skip) mixed (by kernel_rfl) (by kernel_rfl) (of_decide_eq_true (by kernel_rfl)) ?_
   refine ⟨.inl rfl, _, rfl, rfl, ?_⟩
   refine RangeG.fresh (n0 := 7) coS (coT s s' (E 0) (G 0) [] (scr L)) rfl ?_ ?_ ?_
   ·exact ⟨⟨_, rfl, Weak.refl _ _⟩, ⟨_, rfl, Weak.refl _ _⟩, ⟨_, rfl, Weak.refl _ _⟩, trivial⟩
   ·rw [hE, hG]
    subst hX
    exact ⟨bk rfl rfl, bk rfl rfl, bk rfl rfl, bk rfl rfl, bk rfl rfl, bk rfl rfl, bk rfl rfl, trivial⟩
   refine RangeG.after ?_
   refine RangeG.outer (f := 83) (first := []) (captured := [.ptr 6 0]) rfl rfl rfl ?_
   refine CallG.inlineP (m := false) (fn := Tryz.f83) (c := (Tryz.f83.body).getD .skip) mixed (by kernel_rfl) (by kernel_rfl) (of_decide_eq_true (by kernel_rfl)) ?_
   refine loop_up mixed (m := false) (fun _ => [(0, .yld 8), (1, .ptr 6 0)]) (fun r => coT s s' (E r) (G r) (outL ans r) (scr (L.drop r)) ++ [(7, .defd), (8, coR .ready)]) (fun _ => True) L.length 2 (leb rfl) trivial ?_ ?_ ?_
   ·exact ⟨wp rfl (ltb rfl), wp rfl (ltb rfl), trivial⟩
   ·exact ⟨bk rfl rfl, bk rfl rfl, bk rfl rfl, bk rfl rfl, bk rfl rfl, bk rfl rfl, bk rfl rfl, bk rfl rfl, bk rfl rfl, trivial⟩
   intro r hr _
   refine If.mk (fun h1 => ?_) (fun h1 => ?_)
   ·refine ifY ?_
    have hr' : r < L.length := by
     rcases Nat.lt_or_ge r L.length with h | h
     ·exact h
     ·rw [List.drop_of_length_le h] at h1
      exact absurd h1 (by decide)
    have hd : L.drop r = L[r] :: L.drop (r + 1) := List.drop_eq_getElem_cons hr'
    have hle : (scr (L.drop r)).length ≤ 1000 := Nat.le_trans (scr_drop L r) hlen
    refine CallG.pure (n' L[r].length) (fun H => by
     have h := c_index84 (scr (L.drop r)) (by omega) H
     rw [hd, scr_cons, index_scr _ (hL _ (List.getElem_mem hr')), ← scr_cons, ← hd] at h
     exact h) ?_
    refine If.mk (fun _ => ?_) (fun h => absurd (Int.natCast_nonneg _) h)
    refine ifY ?_
    have hsz : (scr (L.drop r)).length = L[r].length + 1 + (scr (L.drop (r + 1))).length := by
     rw [hd, scr_cons, List.length_append, List.length_append]; rfl
    have hx1 : (bT (scr (L.drop r))).extract 0 (L[r].length + 1) = bT (L[r] ++ [10]) := by
     rw [bT_extract, hd, scr_cons, List.drop_zero, List.take_append_of_le_length (by rw [List.length_append]; exact Nat.le_refl _), List.take_of_length_le (by rw [List.length_append]; exact Nat.le_refl _)]
    have hx2 : (bT (scr (L.drop r))).extract (L[r].length + 1) (bT (scr (L.drop r))).size = bT (scr (L.drop (r + 1))) := by
     rw [bT_extract, List.take_of_length_le (by rw [bT_size]; exact Nat.le_refl _), hd, scr_cons, List.drop_append_of_le_length (by rw [List.length_append]; exact Nat.le_refl _), List.drop_of_length_le (by rw [List.length_append]; exact Nat.le_refl _), List.nil_append]
    refine Side.mk (fits64 (by omega)) ?_
    refine Ex.mk _ (aop_slice (a := sA (bT (scr (L.drop r)))) (l := none) (h := some (L[r].length + 1)) rfl rfl rfl (nat_of (by omega)) rfl rfl ((slice_str ⟨Nat.zero_le _, by show L[r].length + 1 ≤ (scr (L.drop r)).length; omega⟩).trans (congrArg (fun x => some (sA x)) hx1))) ?_
    refine Side.mk (fits64 (by omega)) ?_
    refine Ex.mk _ (aop_slice (a := sA (bT (scr (L.drop r)))) (l := some (L[r].length + 1)) (h := none) rfl rfl (nat_of (by omega)) rfl rfl rfl ((slice_str ⟨by show L[r].length + 1 ≤ (scr (L.drop r)).length; omega, Nat.le_refl _⟩).trans (congrArg (fun x => some (sA x)) hx2))) ?_
    refine RoundG.fresh (n0 := 19) (coT s s' (E r) (G r) (outL ans r) (scr (L.drop (r + 1))) ++ [(7, .defd), (8, coR .ready)]) rfl ?_ ?_
    ·exact ⟨bk rfl rfl, bk rfl rfl, bk rfl rfl, bk rfl rfl, bk rfl rfl, bk rfl rfl, bk rfl rfl, bk rfl rfl, bk rfl rfl, trivial⟩
    refine RoundG.introW (m := false) mixed rfl rfl (by decide) ?_
    refine ⟨rfl, _, rfl, rfl, coS ++ [(9, sA (bT (L[r] ++ [10])))], coT s s' (E r) (G r) (outL ans r) (scr (L.drop (r + 1))) ++ [(7, .defd), (8, coR .busy)], 19, rfl, ?_, ?_, ?_⟩
    ·exact ⟨⟨_, rfl, Weak.refl _ _⟩, ⟨_, rfl, Weak.refl _ _⟩, ⟨_, rfl, Weak.refl _ _⟩, ⟨_, rfl, Weak.refl _ _⟩, trivial⟩
    ·exact ⟨bk rfl rfl, bk rfl rfl, bk rfl rfl, bk rfl rfl, bk rfl rfl, bk rfl rfl, bk rfl rfl, bk rfl rfl, bk rfl rfl, trivial⟩
    refine WR.block (WR.late (m := false) mixed 152 3 [5, 4] (by kernel_rfl) ?_)
    refine ⟨rfl, ?_⟩
    refine ⟨rfl, ?_⟩
    refine CallG.pure (sA (bT L[r])) (fun H => by
     have h := c_trimSuffix (bT (L[r] ++ [10])) ⟨#[10]⟩ (by rw [bT_size, List.length_append]; show L[r].length + 1 ≤ _; omega) H
     have e : (⟨(Lib.trimSuffix (bT (L[r] ++ [10])).data.toList (⟨#[10]⟩ : ByteArray).data.toList).toArray⟩ : ByteArray) = bT L[r] := congrArg (fun l : List UInt8 => (⟨l.toArray⟩ : ByteArray)) (trim_nl L[r])
     rw [e] at h
     exact h) ?_
    refine LateG.mk ⟨⟨_, rfl, rfl, rfl⟩, ⟨_, rfl, rfl, rfl⟩, trivial⟩ ?_
    refine CallG.pre [.ptr 2 0, sA (bT L[r])] (coP s s' (E r) (G r)) (coP s s' (E (r + 1)) (G (r + 1))) (sA (bT (ans r))) 2 (.cons (fun H => WeakH.refl _ H) (.cons (fun H => WeakH.refl _ H) .nil)) ⟨rfl, rfl, rfl, rfl, trivial⟩ ⟨rfl, rfl, rfl, rfl, trivial⟩ rfl ⟨(fun e => by cases e), (fun e => by cases e), (fun e => by cases e), (fun e => by cases e), trivial⟩ ⟨bk rfl rfl, bk rfl rfl, bk rfl rfl, bk rfl rfl, trivial⟩ rfl ⟨ltb rfl, trivial, trivial⟩ rfl (under_coP hu hus (hEu r)) (under_coP hu hus (hEu _)) (hstep r hr') ?_
    refine LateG.mk ⟨⟨_, rfl, rfl, rfl⟩, ⟨_, rfl, rfl, rfl⟩, trivial⟩ ?_
    have ho1 := hout (r + 1) (by omega)
    rw [outL_succ, List.length_append, List.length_append] at ho1
    refine now_of (bin_add (a := bT (ans r)) (b := bT [10]) (by rw [bT_size, bT_size]; show _ + 1 ≤ _; simp at ho1; omega)) ?_
    refine now_of (bin_add (a := bT (outL ans r)) (b := bT (ans r) ++ bT [10]) (by rw [bT_app, bT_size, bT_size, List.length_append]; simp at ho1 ⊢; omega)) ?_
    refine ⟨none, _, rfl, rfl, ?_⟩
    refine ifN ?_
    have hnew : bT (outL ans r) ++ (bT (ans r) ++ bT [10]) = bT (outL ans (r + 1)) := by rw [bT_app, bT_app, outL_succ]
    refine ⟨leb rfl, rfl, hr', trivial, ⟨wp rfl (ltb rfl), wp rfl (ltb rfl), trivial⟩, ?_, ?_⟩
    ·exact ⟨bk rfl rfl, bk rfl rfl, bk rfl rfl, bk rfl rfl, bk rfl rfl, ⟨congrArg (fun x => some (Blk.box [sA x] 9)) hnew, ltb rfl⟩, bk rfl rfl, bk rfl rfl, bk rfl rfl, trivial⟩
    ·exact ⟨⟨_, rfl, under_desk 9 (by omega) hus (hEu _)⟩, ⟨_, rfl, trivial⟩, ⟨_, rfl, ltb rfl, trivial⟩, ⟨_, rfl, trivial, trivial⟩, ⟨_, rfl, trivial, trivial⟩, ⟨_, rfl, trivial⟩, ⟨_, rfl, under_coR _⟩, trivial⟩
   ·refine ifN ?_
    have er : r = L.length := by
     rcases Nat.lt_or_ge r L.length with h | h
     ·exfalso
      have hd : L.drop r = L[r] :: L.drop (r + 1) := List.drop_eq_getElem_cons h
      rw [hd, bT_size, scr_cons, List.length_append, List.length_append] at h1
      simp at h1
      omega
     ·omega
    subst er
    refine ⟨leb rfl, .inl ⟨.inr rfl, _, rfl, rfl, ?_⟩⟩
    refine ⟨_, _, rfl, (fun e => by cases e), rfl, rfl, [(8, .ptr 5 0)], [(5, .box [sA (bT (outL ans L.length))] 9)], 9, rfl, ?_, ?_, ?_⟩
    ·exact ⟨⟨_, rfl, Weak.refl _ _⟩, trivial⟩
    ·exact ⟨bk rfl rfl, trivial⟩
    exact ⟨.inl rfl, FinM.mk _ rfl rfl rfl⟩
end Go.Vm
