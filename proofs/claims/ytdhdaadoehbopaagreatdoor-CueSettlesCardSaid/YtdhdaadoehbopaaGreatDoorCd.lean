/-
  Contracts of functions of packages kelirlaw04, kelirref04, kelirref02, cue and slices, for books, evenings and lists as told at each, in every heap. Conditions: at each theorem. (Longer lists; counts; plain mathematics on lists of cues.)
-/
import Derived.Test.YtdhdaadoehbopaaGreatDoorCh
import Derived.Test.YtdhdaadoehbopaaGreatDoorVc
import Derived.Test.YtdhdaadoehbopaaGreatDoorCj

namespace Go.Vm
open Go.Proofs
def ext (x : List Int) (q : Nat) : List (List Int) := (List.range q).map fun i : Nat => x ++ [(i : Int)]
def longerL (c : Nat) (L : List (List Int)) : List (List Int) := L.flatMap fun l => ext l c
theorem ext_succ (x : List Int) (q : Nat) : ext x (q + 1) = ext x q ++ [x ++ [(q : Int)]] := by
 unfold ext; rw [List.range_succ, List.map_append]; rfl
theorem ext_length (x : List Int) (q : Nat) : (ext x q).length = q := by unfold ext; rw [List.length_map, List.length_range]
theorem longer_length (c : Nat) : ∀ L : List (List Int), (longerL c L).length = L.length * c
 | [] => by simp [longerL]
 | l :: L => by
  have ih := longer_length c L
  unfold longerL at ih ⊢
  rw [List.flatMap_cons, List.length_append, ih, ext_length, List.length_cons, Nat.succ_mul, Nat.add_comm]
theorem longer_snoc (c : Nat) (L : List (List Int)) (x : List Int) : longerL c (L ++ [x]) = longerL c L ++ ext x c := by
 unfold longerL; rw [List.flatMap_append, List.flatMap_cons, List.flatMap_nil, List.append_nil]
def rowL (L : List (List Int)) (id : Nat) : AV := .sl L.length (L.map eInts) (.own id L.length 1)
theorem under_rowL (n : Nat) {id : Nat} (h : id < n) (L : List (List Int)) : (rowL L id).under n := by
 unfold rowL
 simp only [AV.under]
 exact ⟨unders_map (under_eInts n) L, h⟩
theorem app_list {g : Nat → Option Blk} {n len id gen : Nat} {cells : List AV} {x : AV} (h1 : cells.length = len) (h2 : len < 2097152) (hg : g id = some (.row gen)) (ho : x.one = true) :
  appT Tryz.prog false g n 48 48 (.sl len cells (.own id gen 1)) (.sl 1 [x] .full) = some (.sl (len + 1) (cells ++ [x]) (.own id (gen + 1) 1), .set id (.row (gen + 1))) :=
 appT_own (e := 25) (bytes := 24) (z := .slice none 0 0) (by kernel_rfl) (by kernel_rfl) (by kernel_rfl) (by kernel_rfl) (by kernel_rfl) rfl (by omega) (by omega) (by omega) hg (by simp [ho])
theorem wk_rowL {t : Trie Blk} {P : List (List Int)} {x : List Int} {q id : Nat} {tl : Tail} :
  Weak t (.sl ((P ++ ext x q).length + 1) ((P ++ ext x q).map eInts ++ [.sl (x.length + 1) (x.map n' ++ [n' q]) tl]) (.own id ((P ++ ext x q).length + 1) 1)) (rowL (P ++ ext x (q + 1)) id) := fun _ H _ => by
 unfold rowL
 have e : P ++ ext x (q + 1) = (P ++ ext x q) ++ [x ++ [(q : Int)]] := by rw [ext_succ, List.append_assoc]
 rw [e]
 generalize P ++ ext x q = M
 rw [List.length_append, List.map_append]
 refine wk_sl (Weaks.snoc (fun H => ?_) _)
 unfold eInts
 rw [List.length_append, List.map_append]
 exact WeakH.tail _ _ _ H
theorem row_ext {P : List (List Int)} {x : List Int} {q : Nat} : some (Blk.row ((P ++ ext x q).length + 1)) = some (Blk.row (P ++ ext x (q + 1)).length) := by
 rw [ext_succ, ← List.append_assoc]
 generalize P ++ ext x q = M
 rw [List.length_append]
 rfl
set_option maxRecDepth 100000 in
theorem c_longerW {b : Book} (h0 : 0 ≤ b.cues) (L : List (List Int)) (hb : L.length * b.cues.toNat ≤ 1000000) (hL : L.length ≤ 1000000) (hl : ∀ l ∈ L, l.length < 1000000) (H : List Blk) :
  ACall Tryz.prog 102 [eBook b, eLists L] H (.ret (eLists (longerL b.cues.toNat L))) H := by
 refine fn_rule (m := false) (fn := Tryz.f102) (c := (Tryz.f102.body).getD .skip) mixed (by kernel_rfl) (by kernel_rfl) (of_decide_eq_true (by kernel_rfl)) ?_ ?_ ?_ H
 ·exact ⟨under_eBook 0 _, under_eLists 0 _, trivial⟩
 ·exact under_eLists 0 _
 ·refine LoopG.ghost (LoopG.at (n0 := 2) rfl ?_)
  refine loop_up mixed (m := false) (fun r => [(1, eLists L), (2, .ptr 0 0), (5, rowL (longerL b.cues.toNat (L.take r)) 1), (6, n' r)]) (fun r => [(0, bBox b), (1, .row (longerL b.cues.toNat (L.take r)).length)]) (fun _ => True) L.length 1 (leb rfl) trivial ?_ ?_ ?_
  ·exact ⟨⟨_, rfl, Weak.refl _ _, under_eLists _ _⟩, wp rfl (ltb rfl), ⟨_, rfl, Weak.own (r := 1) (g := 0) 1 rfl, ⟨trivial, ltb rfl⟩⟩, wp rfl trivial, trivial⟩
  ·exact ⟨bk rfl rfl, bk rfl rfl, trivial⟩
  ·intro r hr _
   refine If.mk (fun h1 => ?_) (fun h1 => ?_)
   ·refine ifY ?_
    obtain ⟨x, hx, htk, hxm⟩ := at_some (l := L) (r := r) (by omega)
    have hxl := hl x hxm
    refine LoopG.at (n0 := 2) rfl (loop_up mixed (m := false) (fun q => [(1, eLists L), (2, .ptr 0 0), (5, rowL (longerL b.cues.toNat (L.take r) ++ ext x q) 1), (6, n' r), (7, n' q)]) (fun q => [(0, bBox b), (1, .row (longerL b.cues.toNat (L.take r) ++ ext x q).length)]) (fun _ => True) b.cues.toNat 1 (leb rfl) trivial ?_ ?_ ?_)
    ·refine ⟨⟨_, rfl, Weak.refl _ _, under_eLists _ _⟩, wp rfl (ltb rfl), ⟨_, rfl, Weak.of_eq (?_), under_rowL _ (ltb rfl) _⟩, wp rfl trivial, wp rfl trivial, trivial⟩
     show _ = rowL (longerL b.cues.toNat (L.take r) ++ ext x 0) 1
     rw [show ext x 0 = [] from rfl, List.append_nil]
    ·refine ⟨bk rfl rfl, ⟨?_, ltb rfl⟩, trivial⟩
     show _ = some (Blk.row (longerL b.cues.toNat (L.take r) ++ ext x 0).length)
     rw [show ext x 0 = [] from rfl, List.append_nil]
     rfl
    ·intro q hq _
     refine If.mk (fun h2 => ?_) (fun h2 => ?_)
     ·refine ifY ?_
      refine Ex.mk _ (jx_lists (r := r) rfl hx) ?_
      refine Ex.mk _ rfl ?_
      have hq' : q < b.cues.toNat := by omega
      have hml := longer_length b.cues.toNat (L.take r)
      have hmt : (L.take r).length = r := by rw [List.length_take]; omega
      have hmb : r * b.cues.toNat + b.cues.toNat ≤ L.length * b.cues.toNat := by
       have : (r + 1) * b.cues.toNat ≤ L.length * b.cues.toNat := Nat.mul_le_mul_right _ (by omega)
       rwa [Nat.succ_mul] at this
      have hmm : (longerL b.cues.toNat (L.take r) ++ ext x q).length < 2000000 := by rw [List.length_append, hml, hmt, ext_length]; omega
      by_cases hx0 : x = []
      ·subst hx0
       refine Ex.mk _ rfl ?_
       refine Ex.mk _ rfl ?_
       refine ex_app _ _ (app_list (List.length_map _) (by omega) rfl rfl) ?_
       refine Side.mk (fits64 (by omega)) ?_
       exact ⟨leb rfl, rfl, by omega, trivial, ⟨⟨_, rfl, Weak.refl _ _, under_eLists _ _⟩, wp rfl (ltb rfl), ⟨_, rfl, wk_rowL, under_rowL _ (ltb rfl) _⟩, wp rfl trivial, wp rfl trivial, trivial⟩, ⟨bk rfl rfl, ⟨row_ext, ltb rfl⟩, trivial⟩, ⟨_, rfl, trivial⟩, trivial⟩
      ·refine ex_app _ _ (app_nilI hx0 (by omega)) ?_
       refine ex_app _ _ (app_int (List.length_map _) (by omega) rfl) ?_
       refine ex_app _ _ (app_list (List.length_map _) (by omega) rfl rfl) ?_
       refine Side.mk (fits64 (by omega)) ?_
       exact ⟨leb rfl, rfl, by omega, trivial, ⟨⟨_, rfl, Weak.refl _ _, under_eLists _ _⟩, wp rfl (ltb rfl), ⟨_, rfl, wk_rowL, under_rowL _ (ltb rfl) _⟩, wp rfl trivial, wp rfl trivial, trivial⟩, ⟨bk rfl rfl, ⟨row_ext, ltb rfl⟩, trivial⟩, ⟨_, rfl, trivial⟩, trivial⟩
     ·refine ifN ?_
      refine ⟨leb rfl, ?_⟩
      refine Side.mk (fits64 (by omega)) ?_
      have eq : q = b.cues.toNat := by omega
      subst eq
      have e5 : longerL b.cues.toNat (L.take (r + 1)) = longerL b.cues.toNat (L.take r) ++ ext x b.cues.toNat := by rw [htk, longer_snoc]
      refine ⟨leb rfl, rfl, by omega, trivial, ⟨⟨_, rfl, Weak.refl _ _, under_eLists _ _⟩, wp rfl (ltb rfl), ⟨_, rfl, Weak.of_eq (?_), under_rowL _ (ltb rfl) _⟩, wp rfl trivial, trivial⟩, ⟨bk rfl rfl, ⟨?_, ltb rfl⟩, trivial⟩, ⟨_, rfl, trivial⟩, trivial⟩
      ·rw [e5]
      ·rw [e5]; rfl
   ·refine ifN ?_
    have er : r = L.length := by omega
    subst er
    refine ⟨leb rfl, .inl rfl, FinG.mk _ rfl rfl ?_⟩
    show AV.sl _ (AV.freezes _ ((longerL b.cues.toNat (L.take L.length)).map eInts)) .unk = _
    rw [freezes_map (fun _ => freeze_eInts _ _), List.take_length]
    rfl
end Go.Vm
