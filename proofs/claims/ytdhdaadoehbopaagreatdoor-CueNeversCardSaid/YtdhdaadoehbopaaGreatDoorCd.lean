/-
  Contracts of functions of packages kelirlaw04, kelirref04, kelirref02, cue and slices, for books, evenings and lists as told at each, in every heap. Conditions: at each theorem. (Longer lists; counts; plain mathematics on lists of cues.)
-/
import Derived.Test.YtdhdaadoehbopaaGreatDoorCh
import Derived.Test.YtdhdaadoehbopaaGreatDoorVc
import Derived.Test.YtdhdaadoehbopaaGreatDoorCj
import Derived.Test.YtdhdaadoehbopaaGreatDoorCb

/-
  Contracts: longer, Count of package kelirref04. (Own work.)
-/
namespace Go.Vm
open Go.Proofs

/-- A list, longer by each of the first cues. -/
def ext (x : List Int) (q : Nat) : List (List Int) := (List.range q).map fun i : Nat => x ++ [(i : Int)]
/-- Each list, longer by each cue. -/
def longerL (c : Nat) (L : List (List Int)) : List (List Int) := L.flatMap fun l => ext l c

theorem ext_succ (x : List Int) (q : Nat) : ext x (q + 1) = ext x q ++ [x ++ [(q : Int)]] := by
  unfold ext; rw [List.range_succ, List.map_append]; rfl
theorem ext_length (x : List Int) (q : Nat) : (ext x q).length = q := by unfold ext; rw [List.length_map, List.length_range]
theorem longer_length (c : Nat) : ∀ L : List (List Int), (longerL c L).length = L.length * c
  | [] => by simp [longerL]
  | l :: L => by
    have ih := longer_length c L
    unfold longerL at ih ⊢
    rw [List.flatMap_cons, List.length_append, ih, ext_length, List.length_cons, Nat.succ_mul, Nat.add_comm]
theorem longer_snoc (c : Nat) (L : List (List Int)) (x : List Int) : longerL c (L ++ [x]) = longerL c L ++ ext x c := by
  unfold longerL; rw [List.flatMap_append, List.flatMap_cons, List.flatMap_nil, List.append_nil]

def rowL (L : List (List Int)) (id : Nat) : AV := .sl L.length (L.map eInts) (.own id L.length 1)
theorem under_rowL (n : Nat) {id : Nat} (h : id < n) (L : List (List Int)) : (rowL L id).under n := by
  unfold rowL
  simp only [AV.under]
  exact ⟨unders_map (under_eInts n) L, h⟩

theorem app_list {g : Nat → Option Blk} {n len id gen : Nat} {cells : List AV} {x : AV} (h1 : cells.length = len) (h2 : len < 2097152) (hg : g id = some (.row gen)) (ho : x.one = true) :
    appT Tryz.prog false g n 48 48 (.sl len cells (.own id gen 1)) (.sl 1 [x] .full) = some (.sl (len + 1) (cells ++ [x]) (.own id (gen + 1) 1), .set id (.row (gen + 1))) :=
  appT_own (e := 25) (bytes := 24) (z := .slice none 0 0) (by kernel_rfl) (by kernel_rfl) (by kernel_rfl) (by kernel_rfl) (by kernel_rfl) rfl (by omega) (by omega) (by omega) hg (by simp [ho])

theorem wk_rowL {t : Trie Blk} {P : List (List Int)} {x : List Int} {q id : Nat} {tl : Tail} :
    Weak t (.sl ((P ++ ext x q).length + 1) ((P ++ ext x q).map eInts ++ [.sl (x.length + 1) (x.map n' ++ [n' q]) tl]) (.own id ((P ++ ext x q).length + 1) 1)) (rowL (P ++ ext x (q + 1)) id) := fun _ H _ => by
  unfold rowL
  have e : P ++ ext x (q + 1) = (P ++ ext x q) ++ [x ++ [(q : Int)]] := by rw [ext_succ, List.append_assoc]
  rw [e]
  generalize P ++ ext x q = M
  rw [List.length_append, List.map_append]
  refine wk_sl (Weaks.snoc (fun H => ?_) _)
  unfold eInts
  rw [List.length_append, List.map_append]
  exact WeakH.tail _ _ _ H

theorem row_ext {P : List (List Int)} {x : List Int} {q : Nat} : some (Blk.row ((P ++ ext x q).length + 1)) = some (Blk.row (P ++ ext x (q + 1)).length) := by
  rw [ext_succ, ← List.append_assoc]
  generalize P ++ ext x q = M
  rw [List.length_append]
  rfl

set_option maxRecDepth 100000 in
theorem c_longer {b : Book} (h0 : 0 ≤ b.cues) (L : List (List Int)) (hb : L.length * b.cues.toNat ≤ 1000000) (hL : L.length ≤ 1000000) (hl : ∀ l ∈ L, l.length < 1000) (H : List Blk) :
    ACall Tryz.prog 102 [eBook b, eLists L] H (.ret (eLists (longerL b.cues.toNat L))) H := by
  refine fn_rule (m := false) (fn := Tryz.f102) (c := (Tryz.f102.body).getD .skip) mixed (by kernel_rfl) (by kernel_rfl) (of_decide_eq_true (by kernel_rfl)) ?_ ?_ ?_ H
  · exact ⟨under_eBook 0 _, under_eLists 0 _, trivial⟩
  · exact under_eLists 0 _
  · refine LoopG.ghost (LoopG.at (n0 := 2) rfl ?_)
    refine loop_up mixed (m := false) (fun r => [(1, eLists L), (2, .ptr 0 0), (5, rowL (longerL b.cues.toNat (L.take r)) 1), (6, n' r)]) (fun r => [(0, bBox b), (1, .row (longerL b.cues.toNat (L.take r)).length)]) (fun _ => True) L.length 1 (leb rfl) trivial ?_ ?_ ?_
    · exact ⟨⟨_, rfl, Weak.refl _ _, under_eLists _ _⟩, ⟨_, rfl, Weak.refl _ _, ltb rfl⟩, ⟨_, rfl, Weak.own (r := 1) (g := 0) 1 rfl, ⟨trivial, ltb rfl⟩⟩, ⟨_, rfl, Weak.refl _ _, trivial⟩, trivial⟩
    · exact ⟨⟨rfl, ltb rfl⟩, ⟨rfl, ltb rfl⟩, trivial⟩
    · intro r hr _
      refine If.mk (fun h1 => ?_) (fun h1 => ?_)
      · refine IfB.mk (fun _ => ?_) (fun e => by cases e)
        obtain ⟨x, hx, htk, hxm⟩ := at_some (l := L) (r := r) (by omega)
        have hxl := hl x hxm
        refine LoopG.at (n0 := 2) rfl (loop_up mixed (m := false) (fun q => [(1, eLists L), (2, .ptr 0 0), (5, rowL (longerL b.cues.toNat (L.take r) ++ ext x q) 1), (6, n' r), (7, n' q)]) (fun q => [(0, bBox b), (1, .row (longerL b.cues.toNat (L.take r) ++ ext x q).length)]) (fun _ => True) b.cues.toNat 1 (leb rfl) trivial ?_ ?_ ?_)
        · refine ⟨⟨_, rfl, Weak.refl _ _, under_eLists _ _⟩, ⟨_, rfl, Weak.refl _ _, ltb rfl⟩, ⟨_, rfl, Weak.of_eq (?_), under_rowL _ (ltb rfl) _⟩, ⟨_, rfl, Weak.refl _ _, trivial⟩, ⟨_, rfl, Weak.refl _ _, trivial⟩, trivial⟩
          show _ = rowL (longerL b.cues.toNat (L.take r) ++ ext x 0) 1
          rw [show ext x 0 = [] from rfl, List.append_nil]
        · refine ⟨⟨rfl, ltb rfl⟩, ⟨?_, ltb rfl⟩, trivial⟩
          show _ = some (Blk.row (longerL b.cues.toNat (L.take r) ++ ext x 0).length)
          rw [show ext x 0 = [] from rfl, List.append_nil]
          rfl
        · intro q hq _
          refine If.mk (fun h2 => ?_) (fun h2 => ?_)
          · refine IfB.mk (fun _ => ?_) (fun e => by cases e)
            refine Ex.mk _ (jx_lists (r := r) rfl hx) ?_
            refine Ex.mk _ rfl ?_
            have hq' : q < b.cues.toNat := by omega
            have hml := longer_length b.cues.toNat (L.take r)
            have hmt : (L.take r).length = r := by rw [List.length_take]; omega
            have hmb : r * b.cues.toNat + b.cues.toNat ≤ L.length * b.cues.toNat := by
              have : (r + 1) * b.cues.toNat ≤ L.length * b.cues.toNat := Nat.mul_le_mul_right _ (by omega)
              rwa [Nat.succ_mul] at this
            have hmm : (longerL b.cues.toNat (L.take r) ++ ext x q).length < 2000000 := by rw [List.length_append, hml, hmt, ext_length]; omega
            by_cases hx0 : x = []
            · subst hx0
              refine Ex.mk _ rfl ?_
              refine Ex.mk _ rfl ?_
              refine ex_app _ _ (app_list (List.length_map _) (by omega) rfl rfl) ?_
              refine Side.mk (fits64 (by omega)) ?_
              exact ⟨leb rfl, rfl, by omega, trivial, ⟨⟨_, rfl, Weak.refl _ _, under_eLists _ _⟩, ⟨_, rfl, Weak.refl _ _, ltb rfl⟩, ⟨_, rfl, wk_rowL, under_rowL _ (ltb rfl) _⟩, ⟨_, rfl, Weak.refl _ _, trivial⟩, ⟨_, rfl, Weak.refl _ _, trivial⟩, trivial⟩, ⟨⟨rfl, ltb rfl⟩, ⟨row_ext, ltb rfl⟩, trivial⟩, ⟨_, rfl, trivial⟩, trivial⟩
            · refine ex_app _ _ (app_nilI hx0 (by omega)) ?_
              refine ex_app _ _ (app_int (List.length_map _) (by omega) rfl) ?_
              refine ex_app _ _ (app_list (List.length_map _) (by omega) rfl rfl) ?_
              refine Side.mk (fits64 (by omega)) ?_
              exact ⟨leb rfl, rfl, by omega, trivial, ⟨⟨_, rfl, Weak.refl _ _, under_eLists _ _⟩, ⟨_, rfl, Weak.refl _ _, ltb rfl⟩, ⟨_, rfl, wk_rowL, under_rowL _ (ltb rfl) _⟩, ⟨_, rfl, Weak.refl _ _, trivial⟩, ⟨_, rfl, Weak.refl _ _, trivial⟩, trivial⟩, ⟨⟨rfl, ltb rfl⟩, ⟨row_ext, ltb rfl⟩, trivial⟩, ⟨_, rfl, trivial⟩, trivial⟩
          · refine IfB.mk (fun e => by cases e) (fun _ => ?_)
            refine ⟨leb rfl, ?_⟩
            refine Side.mk (fits64 (by omega)) ?_
            have eq : q = b.cues.toNat := by omega
            subst eq
            have e5 : longerL b.cues.toNat (L.take (r + 1)) = longerL b.cues.toNat (L.take r) ++ ext x b.cues.toNat := by rw [htk, longer_snoc]
            refine ⟨leb rfl, rfl, by omega, trivial, ⟨⟨_, rfl, Weak.refl _ _, under_eLists _ _⟩, ⟨_, rfl, Weak.refl _ _, ltb rfl⟩, ⟨_, rfl, Weak.of_eq (?_), under_rowL _ (ltb rfl) _⟩, ⟨_, rfl, Weak.refl _ _, trivial⟩, trivial⟩, ⟨⟨rfl, ltb rfl⟩, ⟨?_, ltb rfl⟩, trivial⟩, ⟨_, rfl, trivial⟩, trivial⟩
            · rw [e5]
            · rw [e5]; rfl
      · refine IfB.mk (fun e => by cases e) (fun _ => ?_)
        have er : r = L.length := by omega
        subst er
        refine ⟨leb rfl, .inl rfl, FinG.mk _ rfl rfl ?_⟩
        show AV.sl _ (AV.freezes _ ((longerL b.cues.toNat (L.take L.length)).map eInts)) .unk = _
        rw [freezes_map (fun _ => freeze_eInts _ _), List.take_length]
        rfl
end Go.Vm

/-
  Contracts: Count of package kelirref04. (Own work.)
-/
namespace Go.Vm
open Go.Proofs

/-- The lists of so many cues for which the version plays the tunes. -/
def fitL (c : Nat) (v : Vers) (tunes : List Int) : Nat → List (List Int)
  | 0 => [[]]
  | k + 1 => (longerL c (fitL c v tunes k)).filter fun l => decide (Noted (plays v 0 l) (tunes.take (k + 1)))

theorem longer_mem {c k : Nat} {L : List (List Int)} (h : ∀ l ∈ L, l.length = k ∧ ∀ x ∈ l, 0 ≤ x ∧ x < c) {l : List Int} (hl : l ∈ longerL c L) : l.length = k + 1 ∧ ∀ x ∈ l, 0 ≤ x ∧ x < c := by
  unfold longerL at hl
  obtain ⟨l0, h0, h1⟩ := List.mem_flatMap.1 hl
  unfold ext at h1
  obtain ⟨i, hi, rfl⟩ := List.mem_map.1 h1
  obtain ⟨hl, hm⟩ := h l0 h0
  refine ⟨by simp [hl], fun x hx => ?_⟩
  rcases List.mem_append.1 hx with hx | hx
  · exact hm x hx
  · rw [List.mem_singleton] at hx; subst hx
    have := List.mem_range.1 hi
    omega

theorem fitL_mem {c : Nat} {v : Vers} {tunes : List Int} : ∀ {k : Nat} {l : List Int}, l ∈ fitL c v tunes k → l.length = k ∧ ∀ x ∈ l, 0 ≤ x ∧ x < c
  | 0, l, h => by
    unfold fitL at h
    rw [List.mem_singleton] at h; subst h
    exact ⟨rfl, fun x h => by cases h⟩
  | k + 1, l, h => by
    unfold fitL at h
    obtain ⟨h, _⟩ := List.mem_filter.1 h
    unfold longerL at h
    obtain ⟨l0, h0, h1⟩ := List.mem_flatMap.1 h
    unfold ext at h1
    obtain ⟨i, hi, rfl⟩ := List.mem_map.1 h1
    obtain ⟨hl, hm⟩ := fitL_mem h0
    refine ⟨by simp [hl], fun x hx => ?_⟩
    rcases List.mem_append.1 hx with hx | hx
    · exact hm x hx
    · rw [List.mem_singleton] at hx; subst hx
      have := List.mem_range.1 hi
      omega

theorem fitL_length (c : Nat) (v : Vers) (tunes : List Int) : ∀ k, (fitL c v tunes k).length ≤ c ^ k
  | 0 => by simp [fitL]
  | k + 1 => by
    have ih := fitL_length c v tunes k
    unfold fitL
    refine Nat.le_trans (List.length_filter_le _ _) ?_
    rw [longer_length, Nat.pow_succ]
    exact Nat.mul_le_mul_right _ ih

theorem fitL_small {c : Nat} (hc : c ≤ 4) (v : Vers) (tunes : List Int) {k : Nat} (hk : k ≤ 8) : (fitL c v tunes k).length ≤ 65536 :=
  Nat.le_trans (fitL_length c v tunes k) (Nat.le_trans (Nat.pow_le_pow_left hc k) (Nat.le_trans (Nat.pow_le_pow_right (by omega) hk) (by decide)))

def countR (L : List (List Int)) : AV := match L with
  | [] => .tup [n' 0, .lit (.slice none 0 0)]
  | x :: L => .tup [n' (x :: L).length, eInts x]

theorem wk_lists0 (H : List Blk) : WeakH H (.sl 1 [.lit (.slice none 0 0)] .full) (eLists [[]]) := fun O ι w c h =>
  WeakH.tail _ _ _ H O ι w c (wk_sl (l' := [eInts []]) (.cons (fun H => WeakH.nil H) .nil) O ι w c h)
theorem Weak.row {t : Trie Blk} (L : List (List Int)) (id : Nat) : Weak t (rowL L id) (eLists L) := fun _ H _ => WeakH.tail _ _ _ H

theorem aop_slice {m : Bool} {g : Nat → Option Blk} {n : Nat} {ρ : Operand → Option AV} {o : Oper} {x i : Operand} {l : List Int} {k : Nat} {z : Int} (ho : o.op = .slice 25 x none (some i) none) (hx : ρ x = some (eInts l)) (hi : ρ i = some (n' z)) (hz : z = (k : Int)) (hk : k ≤ l.length) :
    aopF Tryz.prog m g n ρ o = some (.val (eInts (l.take k)) .same) := by
  subst hz
  rw [aopF_fun]
  obtain ⟨dst, op, ty, pos, after, guard⟩ := o
  simp only at ho
  subst ho
  have hu : Tryz.prog.underlying 25 = some (.slice 3) := by kernel_rfl
  have hs : tsz Tryz.prog 3 = some 1 := by kernel_rfl
  have e : sliceA Tryz.prog 25 (eInts l) none (some k) none = some (eInts (l.take k)) := by
    unfold eInts sliceA
    simp only [hu, hs]
    rw [if_pos (by simp; exact hk)]
    simp [List.length_take, Nat.min_eq_left hk, List.map_take]
  have hn : natOf (some (n' (k : Int))) = some (some k) := by simp [natOf, n']
  have ha : ∀ H, aop Tryz.prog m H ρ { dst := dst, op := Op.slice 25 x none (some i) none, type := ty, pos := pos, after := after, guard := guard } = some (.val (eInts (l.take k)) H) := fun H => by
    simp only [aop, hx, Option.bind_some, hi, hn, Option.bind_none]
    simp only [natOf, e]
    rfl
  simp only [aopT]
  unfold plainT
  rw [ha]

set_option maxRecDepth 100000 in
theorem c_refCount {b : Book} (hb : inI b.cues 1 4) {v : Vers} (hv : VersOk v b.cues.toNat) (hs : 0 < v.length) {tunes : List Int} (ht : LTunes b tunes) (H : List Blk) :
    ACall Tryz.prog 47 [eBook b, eVersion v, eInts tunes] H (.ret (countR (fitL b.cues.toNat v tunes tunes.length))) H := by
  have htl := ht.2
  unfold inI at hb
  refine fn_rule (m := false) (fn := Tryz.f47) (c := (Tryz.f47.body).getD .skip) mixed (by kernel_rfl) (by kernel_rfl) (of_decide_eq_true (by kernel_rfl)) ?_ ?_ ?_ H
  · exact ⟨under_eBook 0 _, under_eVersion 0 _, under_eInts 0 _, trivial⟩
  · cases fitL b.cues.toNat v tunes tunes.length with
    | nil => exact under_tup2 trivial trivial
    | cons x L => exact under_tup2 trivial (under_eInts 0 _)
  · refine LoopG.at (n0 := 2) rfl (loop_up mixed (m := false) (fun r => [(2, eInts tunes), (3, .ptr 0 0), (4, .ptr 1 0), (8, eLists (fitL b.cues.toNat v tunes r)), (9, n' r)]) (fun _ => [(0, bBox b), (1, vBox v)]) (fun _ => True) tunes.length 2 (leb rfl) trivial ?_ ?_ ?_)
    · exact ⟨⟨_, rfl, Weak.refl _ _, under_eInts _ _⟩, ⟨_, rfl, Weak.refl _ _, ltb rfl⟩, ⟨_, rfl, Weak.refl _ _, ltb rfl⟩, ⟨_, rfl, fun _ H _ => wk_lists0 H, under_eLists _ _⟩, ⟨_, rfl, Weak.refl _ _, trivial⟩, trivial⟩
    · exact ⟨⟨rfl, ltb rfl⟩, ⟨rfl, ltb rfl⟩, trivial⟩
    · intro r hr _
      have hfl := fitL_small (c := b.cues.toNat) (by omega) v tunes (k := r) (by omega)
      refine If.mk (fun h1 => ?_) (fun h1 => ?_)
      · refine IfB.mk (fun _ => ?_) (fun e => by cases e)
        refine CallG.pure _ (c_longer (by omega) (fitL b.cues.toNat v tunes r) (by have : (fitL b.cues.toNat v tunes r).length * b.cues.toNat ≤ 65536 * 4 := Nat.mul_le_mul hfl (by omega); omega) (by omega) (fun l hl => by have := (fitL_mem hl).1; omega)) ?_
        have hll : (longerL b.cues.toNat (fitL b.cues.toNat v tunes r)).length ≤ 65536 * 4 := by rw [longer_length]; exact Nat.mul_le_mul hfl (by omega)
        have hmem : ∀ l ∈ longerL b.cues.toNat (fitL b.cues.toNat v tunes r), l.length = r + 1 ∧ ∀ x ∈ l, 0 ≤ x ∧ x < b.cues.toNat := fun l hl => longer_mem (fun l h => fitL_mem h) hl
        have hsucc : fitL b.cues.toNat v tunes (r + 1) = (longerL b.cues.toNat (fitL b.cues.toNat v tunes r)).filter fun l => decide (Noted (plays v 0 l) (tunes.take (r + 1))) := rfl
        generalize longerL b.cues.toNat (fitL b.cues.toNat v tunes r) = LL at hll hmem hsucc ⊢
        refine LoopG.ghost (LoopG.at (n0 := 3) rfl (loop_up mixed (m := false) (fun q => [(2, eInts tunes), (3, .ptr 0 0), (4, .ptr 1 0), (8, rowL ((LL.take q).filter fun l => decide (Noted (plays v 0 l) (tunes.take (r + 1)))) 2), (9, n' r), (10, eLists LL), (11, n' q)])
          (fun q => [(0, bBox b), (1, vBox v), (2, .row ((LL.take q).filter fun l => decide (Noted (plays v 0 l) (tunes.take (r + 1)))).length)]) (fun _ => True) LL.length 2 (leb rfl) trivial ?_ ?_ ?_))
        · exact ⟨⟨_, rfl, Weak.refl _ _, under_eInts _ _⟩, ⟨_, rfl, Weak.refl _ _, ltb rfl⟩, ⟨_, rfl, Weak.refl _ _, ltb rfl⟩, ⟨_, rfl, Weak.own (r := 2) (g := 0) 1 rfl, ⟨trivial, ltb rfl⟩⟩, ⟨_, rfl, Weak.refl _ _, trivial⟩, ⟨_, rfl, Weak.refl _ _, under_eLists _ _⟩, ⟨_, rfl, Weak.refl _ _, trivial⟩, trivial⟩
        · exact ⟨⟨rfl, ltb rfl⟩, ⟨rfl, ltb rfl⟩, ⟨rfl, ltb rfl⟩, trivial⟩
        · intro q hq _
          refine If.mk (fun h2 => ?_) (fun h2 => ?_)
          · refine IfB.mk (fun _ => ?_) (fun e => by cases e)
            obtain ⟨l, hl, htk, hlm⟩ := at_some (l := LL) (r := q) (by omega)
            obtain ⟨hll1, hll2⟩ := hmem l hlm
            refine Ex.mk _ (jx_lists (r := q) rfl hl) ?_
            refine Ex.mk _ rfl ?_
            refine CallG.pure _ (c_refPlays hv hs (fun c hc => by have := hll2 c hc; omega) (by omega)) ?_
            refine Side.mk (fits64 (by omega)) ?_
            refine Ex.mk _ (aop_slice rfl rfl rfl (show ((r : Int) + 1) = ((r + 1 : Nat) : Int) by omega) (by omega)) ?_
            have htl2 : (tunes.take (r + 1)).length = r + 1 := by rw [List.length_take]; omega
            have hfil : ∀ {P : List Int → Bool}, ((LL.take q).filter P).length ≤ 65536 * 4 := fun {P} => Nat.le_trans (List.length_filter_le _ _) (by rw [List.length_take]; omega)
            refine CallG.bool (c_fits _ _ (by rw [plays_length]; omega) (by omega) (fun x hx => heard_m1 ht x (List.mem_of_mem_take hx))) (fun h3 => ?_) (fun h3 => ?_)
            · have e5 : (LL.take (q + 1)).filter (fun l => decide (Noted (plays v 0 l) (tunes.take (r + 1)))) = (LL.take q).filter (fun l => decide (Noted (plays v 0 l) (tunes.take (r + 1)))) ++ [l] := by
                rw [htk, List.filter_append, List.filter_cons, if_pos (decide_eq_true h3)]; rfl
              refine IfB.mk (fun _ => ?_) (fun e => by cases e)
              refine Ex.mk _ (jx_lists (r := q) rfl hl) ?_
              refine Ex.mk _ rfl ?_
              refine ex_app _ _ (app_list (List.length_map _) (by have := hfil (P := fun l => decide (Noted (plays v 0 l) (tunes.take (r + 1)))); omega) rfl rfl) ?_
              refine Side.mk (fits64 (by omega)) ?_
              refine ⟨leb rfl, rfl, by omega, trivial, ⟨⟨_, rfl, Weak.refl _ _, under_eInts _ _⟩, ⟨_, rfl, Weak.refl _ _, ltb rfl⟩, ⟨_, rfl, Weak.refl _ _, ltb rfl⟩, ⟨_, rfl, Weak.of_eq (?_), under_rowL _ (ltb rfl) _⟩, ⟨_, rfl, Weak.refl _ _, trivial⟩, ⟨_, rfl, Weak.refl _ _, under_eLists _ _⟩, ⟨_, rfl, Weak.refl _ _, trivial⟩, trivial⟩, ⟨⟨rfl, ltb rfl⟩, ⟨rfl, ltb rfl⟩, ⟨?_, ltb rfl⟩, trivial⟩, ⟨_, rfl, trivial⟩, trivial⟩
              · rw [e5]; unfold rowL; rw [List.length_append, List.map_append]; rfl
              · rw [e5, List.length_append]; rfl
            · have e5 : (LL.take (q + 1)).filter (fun l => decide (Noted (plays v 0 l) (tunes.take (r + 1)))) = (LL.take q).filter (fun l => decide (Noted (plays v 0 l) (tunes.take (r + 1)))) := by
                rw [htk, List.filter_append, List.filter_cons, if_neg (by simpa using h3), List.filter_nil, List.append_nil]
              refine IfB.mk (fun e => by cases e) (fun _ => ?_)
              refine Side.mk (fits64 (by omega)) ?_
              refine ⟨leb rfl, rfl, by omega, trivial, ⟨⟨_, rfl, Weak.refl _ _, under_eInts _ _⟩, ⟨_, rfl, Weak.refl _ _, ltb rfl⟩, ⟨_, rfl, Weak.refl _ _, ltb rfl⟩, ⟨_, rfl, Weak.of_eq (?_), under_rowL _ (ltb rfl) _⟩, ⟨_, rfl, Weak.refl _ _, trivial⟩, ⟨_, rfl, Weak.refl _ _, under_eLists _ _⟩, ⟨_, rfl, Weak.refl _ _, trivial⟩, trivial⟩, ⟨⟨rfl, ltb rfl⟩, ⟨rfl, ltb rfl⟩, ⟨?_, ltb rfl⟩, trivial⟩, trivial⟩
              · rw [e5]
              · rw [e5]; rfl
          · refine IfB.mk (fun e => by cases e) (fun _ => ?_)
            refine ⟨leb rfl, ?_⟩
            refine Side.mk (fits64 (by omega)) ?_
            have eq : q = LL.length := by omega
            subst eq
            refine ⟨leb rfl, rfl, by omega, trivial, ⟨⟨_, rfl, Weak.refl _ _, under_eInts _ _⟩, ⟨_, rfl, Weak.refl _ _, ltb rfl⟩, ⟨_, rfl, Weak.refl _ _, ltb rfl⟩, ⟨_, rfl, ?_, under_eLists _ _⟩, ⟨_, rfl, Weak.refl _ _, trivial⟩, trivial⟩, ⟨⟨rfl, ltb rfl⟩, ⟨rfl, ltb rfl⟩, trivial⟩, trivial⟩
            rw [hsucc, List.take_length]
            exact Weak.row _ _
      · refine IfB.mk (fun e => by cases e) (fun _ => ?_)
        have er : r = tunes.length := by omega
        subst er
        refine ⟨leb rfl, ?_⟩
        cases hF : fitL b.cues.toNat v tunes tunes.length with
        | nil =>
          refine If.mk (fun _ => ?_) (fun h => absurd (by decide) h)
          refine IfB.mk (fun _ => ?_) (fun e => by cases e)
          exact ⟨.inl rfl, FinG.mk _ rfl rfl rfl⟩
        | cons x L =>
          refine If.mk (fun h => absurd h (by rw [List.length_cons]; omega)) (fun _ => ?_)
          refine IfB.mk (fun e => by cases e) (fun _ => ?_)
          refine Ex.mk _ (jx_lists (r := 0) rfl rfl) ?_
          refine Ex.mk _ rfl ?_
          refine ⟨.inl rfl, FinG.mk _ rfl rfl ?_⟩
          show AV.tup [_, AV.freeze _ (eInts x)] = _
          rw [freeze_eInts]
          rfl
end Go.Vm

/-
  The lists of cues in the order in which package cue goes through them; those that fit are the document's. (Own work: plain mathematics.)
-/
namespace Go.Vm
open Go.Proofs

/-- All longer lists by so many cues, in the order of the search. -/
def enumL (c : Nat) : Nat → List Int → List (List Int)
  | 0, now => [now]
  | k + 1, now => (List.range c).flatMap fun i : Nat => enumL c k (now ++ [(i : Int)])

theorem enum_longer (c : Nat) : ∀ (k : Nat) (now : List Int), enumL c (k + 1) now = longerL c (enumL c k now)
  | 0, now => by
    show (List.range c).flatMap (fun i : Nat => [now ++ [(i : Int)]]) = longerL c [now]
    unfold longerL ext
    rw [List.flatMap_cons, List.flatMap_nil, List.append_nil]
    generalize List.range c = R
    induction R with
    | nil => rfl
    | cons a R ih => rw [List.flatMap_cons, ih]; rfl
  | k + 1, now => by
    show (List.range c).flatMap (fun i : Nat => enumL c (k + 1) (now ++ [(i : Int)])) = longerL c ((List.range c).flatMap fun i : Nat => enumL c k (now ++ [(i : Int)]))
    have e : (fun i : Nat => enumL c (k + 1) (now ++ [(i : Int)])) = fun i : Nat => longerL c (enumL c k (now ++ [(i : Int)])) := funext fun i => enum_longer c k _
    rw [e]
    generalize List.range c = R
    induction R with
    | nil => rfl
    | cons a R ih =>
      rw [List.flatMap_cons, List.flatMap_cons, ih]
      unfold longerL
      rw [List.flatMap_append]

theorem enum_length (c : Nat) : ∀ (k : Nat) (now : List Int), (enumL c k now).length = c ^ k
  | 0, _ => rfl
  | k + 1, now => by rw [enum_longer, longer_length, enum_length c k now, Nat.pow_succ]

theorem enum_mem {c : Nat} : ∀ {k : Nat} {now l : List Int}, l ∈ enumL c k now → ∃ m, l = now ++ m ∧ m.length = k ∧ ∀ x ∈ m, 0 ≤ x ∧ x < c
  | 0, now, l, h => by
    have : l = now := by simpa [enumL] using h
    exact ⟨[], by simp [this], rfl, fun _ h => by cases h⟩
  | k + 1, now, l, h => by
    obtain ⟨i, hi, h1⟩ := List.mem_flatMap.1 h
    obtain ⟨m, rfl, h2, h3⟩ := enum_mem h1
    have := List.mem_range.1 hi
    refine ⟨(i : Int) :: m, by simp, by simp [h2], fun x hx => ?_⟩
    rcases List.mem_cons.1 hx with rfl | hx
    · omega
    · exact h3 x hx

theorem noted_prefix {v : Vers} {tunes : List Int} {l : List Int} {x : Int} {k : Nat} (hl : l.length = k) (h : Noted (plays v 0 (l ++ [x])) (tunes.take (k + 1))) : Noted (plays v 0 l) (tunes.take k) := by
  intro i hi h0
  rw [List.length_take] at hi
  have hk : i < k := by omega
  have e1 : (tunes.take k).getD i 0 = tunes.getD i 0 := by simp [List.getD_eq_getElem?_getD, hk]
  have e2 : (tunes.take (k + 1)).getD i 0 = tunes.getD i 0 := by simp [List.getD_eq_getElem?_getD, show i < k + 1 by omega]
  have e3 : (plays v 0 (l ++ [x])).getD i 0 = (plays v 0 l).getD i 0 := by
    rw [plays_snoc, List.getD_eq_getElem?_getD, List.getD_eq_getElem?_getD, List.getElem?_append_left (by rw [plays_length]; omega)]
  have := h i (by rw [List.length_take]; omega) (by rw [e2, ← e1]; exact h0)
  rw [e1, ← e3, this, e2]

theorem filter_longer {c : Nat} {p q : List Int → Bool} : ∀ {L : List (List Int)}, (∀ l ∈ L, ∀ x : Int, p (l ++ [x]) = true → q l = true) → (longerL c (L.filter q)).filter p = (longerL c L).filter p
  | [], _ => rfl
  | l :: L, h => by
    have ih := filter_longer (c := c) (p := p) (q := q) fun l' hl' => h l' (List.mem_cons_of_mem _ hl')
    have hL : longerL c (l :: L) = ext l c ++ longerL c L := by unfold longerL; rw [List.flatMap_cons]
    rw [hL, List.filter_append, List.filter_cons]
    cases hq : q l with
    | true =>
      rw [if_pos rfl]
      have hL2 : longerL c (l :: L.filter q) = ext l c ++ longerL c (L.filter q) := by unfold longerL; rw [List.flatMap_cons]
      rw [hL2, List.filter_append, ih]
    | false =>
      rw [if_neg (by simp), ih]
      have : (ext l c).filter p = [] := by
        rw [List.filter_eq_nil_iff]
        intro y hy hp
        unfold ext at hy
        obtain ⟨i, _, rfl⟩ := List.mem_map.1 hy
        have := h l List.mem_cons_self _ hp
        rw [hq] at this; cases this
      rw [this, List.nil_append]

/-- The document's lists are those of the search that fit. -/
theorem fitL_enum {c : Nat} {v : Vers} {tunes : List Int} : ∀ {k : Nat}, fitL c v tunes k = (enumL c k []).filter fun l => decide (Noted (plays v 0 l) (tunes.take k))
  | 0 => by
    show [[]] = [[]].filter _
    have h0 : Noted (plays v 0 []) (tunes.take 0) := fun i hi => by simp at hi
    rw [List.filter_cons, if_pos (decide_eq_true h0)]
    rfl
  | k + 1 => by
    show (longerL c (fitL c v tunes k)).filter _ = _
    rw [fitL_enum (k := k), enum_longer, filter_longer]
    intro l hl x hp
    obtain ⟨m, rfl, h2, _⟩ := enum_mem hl
    exact decide_eq_true (noted_prefix (by simpa using h2) (of_decide_eq_true hp))

/-- The lists that fit behind a beginning. -/
def hitL (c : Nat) (v : Vers) (tunes now : List Int) : List (List Int) := (enumL c (tunes.length - now.length) now).filter fun l => decide (Noted (plays v 0 l) tunes)
/-- Those behind it and one of the first cues. -/
def hitU (c : Nat) (v : Vers) (tunes now : List Int) (r : Nat) : List (List Int) := (List.range r).flatMap fun i : Nat => hitL c v tunes (now ++ [(i : Int)])

theorem hitU_zero (c : Nat) (v : Vers) (tunes now : List Int) : hitU c v tunes now 0 = [] := rfl
theorem hitU_succ (c : Nat) (v : Vers) (tunes now : List Int) (r : Nat) : hitU c v tunes now (r + 1) = hitU c v tunes now r ++ hitL c v tunes (now ++ [(r : Int)]) := by
  unfold hitU
  rw [List.range_succ, List.flatMap_append, List.flatMap_cons, List.flatMap_nil, List.append_nil]
theorem hitL_full {c : Nat} {v : Vers} {tunes now : List Int} (h : now.length = tunes.length) : hitL c v tunes now = if Noted (plays v 0 now) tunes then [now] else [] := by
  unfold hitL
  rw [h, Nat.sub_self]
  show [now].filter _ = _
  by_cases hn : Noted (plays v 0 now) tunes
  · rw [List.filter_cons, if_pos (decide_eq_true hn), if_pos hn]; rfl
  · rw [List.filter_cons, if_neg (by simpa using hn), if_neg hn]; rfl
theorem hitL_step {c : Nat} {v : Vers} {tunes now : List Int} (h : now.length < tunes.length) : hitL c v tunes now = hitU c v tunes now c := by
  unfold hitL hitU hitL
  obtain ⟨j, hj⟩ : ∃ j, tunes.length - now.length = j + 1 := ⟨tunes.length - now.length - 1, by omega⟩
  have e : ∀ i : Nat, tunes.length - (now ++ [(i : Int)]).length = j := fun i => by rw [List.length_append, List.length_singleton]; omega
  simp only [e, hj]
  show ((List.range c).flatMap fun i : Nat => enumL c j (now ++ [(i : Int)])).filter _ = _
  generalize List.range c = R
  induction R with
  | nil => rfl
  | cons a R ih => rw [List.flatMap_cons, List.flatMap_cons, List.filter_append, ih]
theorem hitL_nil (c : Nat) (v : Vers) (tunes : List Int) : hitL c v tunes [] = fitL c v tunes tunes.length := by
  rw [fitL_enum, List.take_length]
  rfl
theorem hitL_small {c : Nat} (hc : c ≤ 4) {v : Vers} {tunes now : List Int} (ht : tunes.length ≤ 8) : (hitL c v tunes now).length ≤ 65536 := by
  unfold hitL
  refine Nat.le_trans (List.length_filter_le _ _) ?_
  rw [enum_length]
  exact Nat.le_trans (Nat.pow_le_pow_left hc _) (Nat.le_trans (Nat.pow_le_pow_right (by omega) (show tunes.length - now.length ≤ 8 by omega)) (by decide))
theorem hitU_small {c : Nat} (hc : c ≤ 4) {v : Vers} {tunes now : List Int} (ht : tunes.length ≤ 8) : ∀ {r : Nat}, (hitU c v tunes now r).length ≤ 65536 * r
  | 0 => by rw [hitU_zero]; simp
  | r + 1 => by
    rw [hitU_succ, List.length_append]
    have := hitU_small hc (v := v) (tunes := tunes) (now := now) ht (r := r)
    have := hitL_small hc (v := v) (tunes := tunes) (now := now ++ [(r : Int)]) ht
    omega
end Go.Vm

/-
  Cues that were misheard: the best of the lists that fit is the document's. (Own work: plain mathematics.)
-/
namespace Go.Vm
open Go.Proofs

theorem snoc_ind {α : Type} {motive : List α → Prop} (h0 : motive []) (hs : ∀ l x, motive l → motive (l ++ [x])) (l : List α) : motive l := by
  have h : ∀ m : List α, motive m.reverse := fun m => by
    induction m with
    | nil => exact h0
    | cons x m ih => rw [List.reverse_cons]; exact hs _ _ ih
  have := h l.reverse
  rwa [List.reverse_reverse] at this

/-- The better of two, if any: fewer, or the first. -/
def better {α : Type} (o x : Option (α × Nat)) : Option (α × Nat) := match o, x with
  | o, none => o
  | none, some y => some y
  | some y, some z => if z.2 < y.2 then some z else some y

theorem better_none {α : Type} (x : Option (α × Nat)) : better none x = x := by cases x <;> rfl
theorem better_none' {α : Type} (x : Option (α × Nat)) : better x none = x := by cases x <;> rfl
theorem better_assoc {α : Type} (a b c : Option (α × Nat)) : better (better a b) c = better a (better b c) := by
  cases c with
  | none => rw [better_none', better_none']
  | some c =>
    cases b with
    | none => rw [better_none', better_none]
    | some b =>
      cases a with
      | none => rw [better_none, better_none]
      | some a =>
        simp only [better]
        by_cases h1 : b.2 < a.2 <;> by_cases h2 : c.2 < b.2
        · simp only [if_pos h1, if_pos h2]; rw [if_pos (by omega)]
        · simp only [if_pos h1, if_neg h2]
        · simp only [if_neg h1, if_pos h2]
        · simp only [if_neg h1, if_neg h2]; rw [if_neg (by omega)]

/-- The best of a list. -/
def bestOf {α : Type} (f : α → Nat) (l : List α) : Option (α × Nat) := l.foldl (fun o x => better o (some (x, f x))) none

theorem best_from {α : Type} {f : α → Nat} : ∀ (l : List α) (o : Option (α × Nat)), l.foldl (fun o x => better o (some (x, f x))) o = better o (bestOf f l)
  | [], o => (better_none' o).symm
  | x :: l, o => by
    unfold bestOf
    rw [List.foldl_cons, List.foldl_cons, best_from l, best_from l, better_none, better_assoc]

theorem best_append {α : Type} {f : α → Nat} (l m : List α) : bestOf f (l ++ m) = better (bestOf f l) (bestOf f m) := by
  have := best_from (f := f) m (bestOf f l)
  unfold bestOf at this ⊢
  rw [List.foldl_append]
  exact this

theorem best_snoc {α : Type} {f : α → Nat} (l : List α) (x : α) : bestOf f (l ++ [x]) = better (bestOf f l) (some (x, f x)) := best_append l [x]

theorem best_map {α β : Type} {f : α → Nat} {g : β → Nat} {h : β → α} {k : Nat} (hk : ∀ x, f (h x) = g x + k) : ∀ l : List β, bestOf f (l.map h) = (bestOf g l).map fun p => (h p.1, p.2 + k) := by
  have sh : ∀ a b : Option (β × Nat), (better a b).map (fun p => (h p.1, p.2 + k)) = better (a.map fun p => (h p.1, p.2 + k)) (b.map fun p => (h p.1, p.2 + k)) := fun a b => by
    cases a with
    | none => rw [better_none, Option.map_none, better_none]
    | some a =>
      cases b with
      | none => rfl
      | some b =>
        simp only [better, Option.map_some]
        by_cases h1 : b.2 < a.2
        · rw [if_pos h1, if_pos (by omega)]; rfl
        · rw [if_neg h1, if_neg (by omega)]; rfl
  intro l
  induction l with
  | nil => rfl
  | cons x l ih =>
    have e1 := best_append (f := f) [h x] (l.map h)
    have e2 := best_append (f := g) [x] l
    rw [List.singleton_append] at e1 e2
    rw [List.map_cons, e1, e2, sh, ih]
    congr 1
    show better none (some (h x, f (h x))) = _
    rw [better_none, hk]
    rfl

theorem best_flat {α : Type} {f : α → Nat} {g : Nat → List α} (c : Nat) : bestOf f ((List.range c).flatMap g) = (List.range c).foldl (fun o i => better o (bestOf f (g i))) none := by
  induction c with
  | zero => rfl
  | succ c ih => rw [List.range_succ, List.flatMap_append, best_append, ih, List.foldl_append, List.flatMap_cons, List.flatMap_nil, List.append_nil]; rfl

theorem best_isSome {α : Type} {f : α → Nat} (l : List α) : bestOf f l = none ↔ l = [] := by
  refine ⟨fun h => ?_, fun h => by rw [h]; rfl⟩
  rcases List.eq_nil_or_concat l with rfl | ⟨m, x, rfl⟩
  · rfl
  · rw [List.concat_eq_append, best_snoc] at h
    exfalso
    cases hb : bestOf f m with
    | none => rw [hb, better_none] at h; cases h
    | some y =>
      rw [hb] at h
      simp only [better] at h
      split at h <;> cases h

theorem best_eq {α : Type} {f : α → Nat} : ∀ {l : List α} {p : α × Nat}, bestOf f l = some p → p.1 ∈ l ∧ p.2 = f p.1 := by
  intro l
  induction l using snoc_ind with
  | h0 => intro p h; cases h
  | hs l x ih =>
    intro p h
    rw [best_snoc] at h
    cases hb : bestOf f l with
    | none =>
      rw [hb, better_none] at h; cases h
      exact ⟨by simp, rfl⟩
    | some y =>
      rw [hb] at h
      simp only [better] at h
      split at h
      · cases h; exact ⟨by simp, rfl⟩
      · cases h
        obtain ⟨h1, h2⟩ := ih hb
        exact ⟨by simp [h1], h2⟩

/-! ### Lists of cues, from their first one -/
def enumT (c : Nat) : Nat → List (List Int)
  | 0 => [[]]
  | k + 1 => (List.range c).flatMap fun i : Nat => (enumT c k).map fun l => (i : Int) :: l

theorem enum_tails (c : Nat) : ∀ (k : Nat) (now : List Int), enumL c k now = (enumT c k).map fun l => now ++ l
  | 0, now => by simp [enumL, enumT]
  | k + 1, now => by
    show (List.range c).flatMap (fun i : Nat => enumL c k (now ++ [(i : Int)])) = ((List.range c).flatMap fun i : Nat => (enumT c k).map fun l => (i : Int) :: l).map fun l => now ++ l
    have e : (fun i : Nat => enumL c k (now ++ [(i : Int)])) = fun i : Nat => ((enumT c k).map fun l => (i : Int) :: l).map fun l => now ++ l := funext fun i => by
      rw [enum_tails c k, List.map_map]
      exact List.map_congr_left fun l _ => by simp
    rw [e]
    generalize List.range c = R
    induction R with
    | nil => rfl
    | cons a R ih => rw [List.flatMap_cons, List.flatMap_cons, List.map_append, ih]

/-- The lists for which tunes are played from a state. -/
def hitS (c : Nat) (v : Vers) (s : Nat) (tunes : List Int) : List (List Int) := (enumT c tunes.length).filter fun l => decide (Noted (plays v s l) tunes)

theorem hitL_hitS (c : Nat) (v : Vers) (tunes : List Int) : hitL c v tunes [] = hitS c v 0 tunes := by
  unfold hitL hitS
  rw [enum_tails]
  simp

theorem noted_cons {t : Int} {ts : List Int} {x : Int} {xs : List Int} : Noted (x :: xs) (t :: ts) ↔ (0 ≤ t → x = t) ∧ Noted xs ts := by
  refine ⟨fun h => ⟨fun h0 => h 0 (by simp) h0, fun i hi h0 => h (i + 1) (by simpa using hi) (by simpa using h0)⟩, fun h i hi h0 => ?_⟩
  cases i with
  | zero => exact h.1 h0
  | succ i => exact h.2 i (by simpa using hi) (by simpa using h0)

/-- How many differ. -/
def apartN : List Int → List Int → Nat
  | a :: l, b :: m => (if b ≠ a then 1 else 0) + apartN l m
  | _, _ => 0

def fewStep (c0 t : Int) (m : Move) (i : Nat) (x : Option (List Int × Nat)) : Option (List Int × Nat) :=
  if t ≠ -1 ∧ t ≠ m.2 then none else x.map fun p => ((i : Int) :: p.1, p.2 + if (i : Int) ≠ c0 then 1 else 0)

/-- The document's answer: the fewest. -/
def fewL (c : Nat) (v : Vers) : Nat → List Int → List Int → Option (List Int × Nat)
  | s, c0 :: cs, t :: ts => (List.range c).foldl (fun o i => better o (fewStep c0 t (mv v s i) i (fewL c v (mv v s i).1.toNat cs ts))) none
  | _, _, _ => some ([], 0)

theorem few_best {c : Nat} {v : Vers} : ∀ {tunes cues : List Int} {s : Nat}, cues.length = tunes.length → (∀ t ∈ tunes, -1 ≤ t) → bestOf (apartN cues) (hitS c v s tunes) = fewL c v s cues tunes
  | [], cues, s, h, _ => by
    have : cues = [] := List.eq_nil_of_length_eq_zero (by simpa using h)
    subst this
    rfl
  | t :: ts, [], s, h, _ => by simp at h
  | t :: ts, c0 :: cs, s, h, ht => by
    have hh : hitS c v s (t :: ts) = (List.range c).flatMap fun i : Nat => if t ≠ -1 ∧ t ≠ (mv v s i).2 then [] else (hitS c v (mv v s i).1.toNat ts).map fun l => (i : Int) :: l := by
      unfold hitS
      show ((List.range c).flatMap fun i : Nat => (enumT c ts.length).map fun l => (i : Int) :: l).filter _ = _
      generalize List.range c = R
      induction R with
      | nil => rfl
      | cons i R ih =>
        rw [List.flatMap_cons, List.flatMap_cons, List.filter_append, ih]
        congr 1
        have hp : ∀ l : List Int, Noted (plays v s ((i : Int) :: l)) (t :: ts) ↔ (0 ≤ t → (mv v s i).2 = t) ∧ Noted (plays v (mv v s i).1.toNat l) ts := fun l => noted_cons
        rw [List.filter_map]
        have hc : ((fun l => decide (Noted (plays v s l) (t :: ts))) ∘ fun l => (i : Int) :: l) = fun l => decide ((0 ≤ t → (mv v s i).2 = t) ∧ Noted (plays v (mv v s i).1.toNat l) ts) := funext fun l => by
          simp only [Function.comp]
          exact decide_eq_decide.2 (hp l)
        rw [hc]
        have h1 := ht t (by simp)
        by_cases hb : t ≠ -1 ∧ t ≠ (mv v s i).2
        · rw [if_pos hb]
          have : (enumT c ts.length).filter (fun l => decide ((0 ≤ t → (mv v s i).2 = t) ∧ Noted (plays v (mv v s i).1.toNat l) ts)) = [] := by
            rw [List.filter_eq_nil_iff]
            intro l _ hp
            have := (of_decide_eq_true hp).1 (by omega)
            exact hb.2 this.symm
          rw [this]; rfl
        · rw [if_neg hb]
          congr 1
          refine List.filter_congr fun l _ => decide_eq_decide.2 ⟨fun h => h.2, fun h => ⟨fun h0 => ?_, h⟩⟩
          omega
    rw [hh, best_flat]
    show _ = (List.range c).foldl (fun o i => better o (fewStep c0 t (mv v s i) i (fewL c v (mv v s i).1.toNat cs ts))) none
    congr 1
    refine funext fun o => funext fun i => ?_
    congr 1
    unfold fewStep
    by_cases hb : t ≠ -1 ∧ t ≠ (mv v s i).2
    · rw [if_pos hb, if_pos hb]; rfl
    · rw [if_neg hb, if_neg hb]
      rw [best_map (g := apartN cs) (k := if (i : Int) ≠ c0 then 1 else 0) (fun l => by show (if (i : Int) ≠ c0 then 1 else 0) + apartN cs l = _; omega)]
      rw [few_best (by simpa using h) fun t' ht' => ht t' (List.mem_cons_of_mem _ ht')]
end Go.Vm

/-
  Counts: the sum over the tunes in place of one that was not noted; the order of the lists. (Own work: plain mathematics.)
-/
namespace Go.Vm
open Go.Proofs

def sumN (f : Nat → Nat) : Nat → Nat
  | 0 => 0
  | n + 1 => sumN f n + f n

theorem sumN_add (f g : Nat → Nat) : ∀ n, sumN (fun t => f t + g t) n = sumN f n + sumN g n
  | 0 => rfl
  | n + 1 => by
    show sumN (fun t => f t + g t) n + (f n + g n) = _
    rw [sumN_add f g n]
    show _ = (sumN f n + f n) + (sumN g n + g n)
    omega
theorem sumN_zero : ∀ n, sumN (fun _ => 0) n = 0
  | 0 => rfl
  | n + 1 => sumN_zero n
theorem sumN_one {k : Nat} : ∀ {n : Nat}, sumN (fun t => if k = t then 1 else 0) n = if k < n then 1 else 0
  | 0 => by simp [sumN]
  | n + 1 => by
    show sumN (fun t => if k = t then 1 else 0) n + (if k = n then 1 else 0) = _
    rw [sumN_one (n := n)]
    by_cases h1 : k < n
    · rw [if_pos h1, if_neg (by omega), if_pos (by omega)]
    · by_cases h2 : k = n
      · rw [if_neg h1, if_pos h2, if_pos (by omega)]
      · rw [if_neg h1, if_neg h2, if_neg (by omega)]
theorem sumN_congr {f g : Nat → Nat} : ∀ {n : Nat}, (∀ t, t < n → f t = g t) → sumN f n = sumN g n
  | 0, _ => rfl
  | n + 1, h => by
    show sumN f n + f n = sumN g n + g n
    rw [sumN_congr fun t ht => h t (by omega), h n (by omega)]
theorem sumN_le {f : Nat → Nat} {b : Nat} (h : ∀ t, f t ≤ b) : ∀ n, sumN f n ≤ n * b
  | 0 => by simp [sumN]
  | n + 1 => by
    show sumN f n + f n ≤ _
    have := sumN_le h n
    have := h n
    rw [Nat.succ_mul]; omega

/-- What holds of each list for just one number is counted once. -/
theorem sum_filter {α : Type} {p : α → Bool} {q : Nat → α → Bool} {T : Nat} : ∀ {L : List α}, (∀ l ∈ L, p l = true → ∃ k, k < T ∧ ∀ t, q t l = true ↔ k = t) → (∀ l ∈ L, p l = false → ∀ t, q t l = false) → sumN (fun t => (L.filter (q t)).length) T = (L.filter p).length
  | [], _, _ => by
    show sumN (fun _ => 0) T = 0
    exact sumN_zero T
  | l :: L, h1, h2 => by
    have ih := sum_filter (p := p) (q := q) (T := T) (L := L) (fun l hl => h1 l (List.mem_cons_of_mem _ hl)) (fun l hl => h2 l (List.mem_cons_of_mem _ hl))
    have e : (fun t => ((l :: L).filter (q t)).length) = fun t => (if q t l = true then 1 else 0) + (L.filter (q t)).length := funext fun t => by
      rw [List.filter_cons]
      split
      · rw [List.length_cons]; omega
      · omega
    rw [e, sumN_add, ih, List.filter_cons]
    cases hp : p l with
    | true =>
      obtain ⟨k, hk, hq⟩ := h1 l List.mem_cons_self hp
      have e2 : (fun t => if q t l = true then 1 else 0) = fun t => if k = t then 1 else 0 := funext fun t => by
        by_cases hkt : k = t
        · rw [if_pos ((hq t).2 hkt), if_pos hkt]
        · rw [if_neg (fun x => hkt ((hq t).1 x)), if_neg hkt]
      rw [e2, sumN_one, if_pos hk, if_pos rfl, List.length_cons]
      omega
    | false =>
      have e2 : (fun t => if q t l = true then 1 else 0) = fun _ => 0 := funext fun t => by
        rw [h2 l List.mem_cons_self hp t]; rfl
      rw [e2, sumN_zero, if_neg (by simp)]
      omega

theorem noted_set {p tunes : List Int} {at' : Nat} (ha : at' < tunes.length) (hm : tunes.getD at' 0 = -1) (t : Nat) : Noted p (tunes.set at' (t : Int)) ↔ Noted p tunes ∧ p.getD at' 0 = t := by
  have e1 : (tunes.set at' (t : Int)).getD at' 0 = t := by simp [List.getD_eq_getElem?_getD, List.getElem?_set_self ha]
  have e2 : ∀ i, i ≠ at' → (tunes.set at' (t : Int)).getD i 0 = tunes.getD i 0 := fun i hi => by
    simp only [List.getD_eq_getElem?_getD]
    rw [List.getElem?_set_ne (Ne.symm hi)]
  refine ⟨fun h => ⟨fun i hi h0 => ?_, ?_⟩, fun h i hi h0 => ?_⟩
  · by_cases hi' : i = at'
    · subst hi'; omega
    · have := h i (by simpa using hi) (by rw [e2 i hi']; exact h0)
      rw [this, e2 i hi']
  · rw [h at' (by simpa using ha) (by rw [e1]; omega), e1]
  · by_cases hi' : i = at'
    · subst hi'; rw [e1]; exact h.2
    · rw [e2 i hi'] at h0 ⊢
      exact h.1 i (by simpa using hi) h0

/-- The theorem of counts. -/
theorem fit_sum {c T : Nat} {v : Vers} {tunes : List Int} {at' : Nat} (ha : at' < tunes.length) (hm : tunes.getD at' 0 = -1) (hv : ∀ l : List Int, (∀ x ∈ l, 0 ≤ x ∧ x < c) → ∀ y ∈ plays v 0 l, 0 ≤ y ∧ y < T) :
    sumN (fun t => (fitL c v (tunes.set at' (t : Int)) tunes.length).length) T = (fitL c v tunes tunes.length).length := by
  have e : (fun t : Nat => (fitL c v (tunes.set at' (t : Int)) tunes.length).length) = fun t : Nat => ((enumL c tunes.length []).filter fun l => decide (Noted (plays v 0 l) (tunes.set at' (t : Int)))).length := funext fun t => by
    rw [fitL_enum]
    have : (tunes.set at' (t : Int)).take tunes.length = tunes.set at' (t : Int) := List.take_of_length_le (by simp)
    rw [this]
  have e0 : fitL c v tunes tunes.length = (enumL c tunes.length []).filter fun l => decide (Noted (plays v 0 l) tunes) := by rw [fitL_enum, List.take_length]
  rw [e, e0]
  refine sum_filter (fun l hl hp => ?_) (fun l hl hp t => ?_)
  · obtain ⟨m, hm', h2, h3⟩ := enum_mem hl
    rw [List.nil_append] at hm'
    subst hm'
    have hN := of_decide_eq_true hp
    have hlen : at' < (plays v 0 l).length := by rw [plays_length]; omega
    have hmem : (plays v 0 l).getD at' 0 ∈ plays v 0 l := by
      rw [List.getD_eq_getElem?_getD, List.getElem?_eq_getElem hlen]
      exact List.getElem_mem hlen
    obtain ⟨h0, h1⟩ := hv l h3 _ hmem
    refine ⟨((plays v 0 l).getD at' 0).toNat, by omega, fun t => ?_⟩
    rw [decide_eq_true_iff, noted_set ha hm]
    refine ⟨fun h => by omega, fun h => ⟨hN, by omega⟩⟩
  · refine decide_eq_false fun h => ?_
    exact (of_decide_eq_false hp) ((noted_set ha hm t).1 h).1

/-! ### The order of the lists -/
theorem enumT_mem {c : Nat} : ∀ {k : Nat} {l : List Int}, l ∈ enumT c k ↔ l.length = k ∧ ∀ x ∈ l, 0 ≤ x ∧ x < c
  | 0, l => by
    show l ∈ [[]] ↔ _
    rw [List.mem_singleton]
    refine ⟨fun h => by subst h; exact ⟨rfl, fun _ h => by cases h⟩, fun h => List.eq_nil_of_length_eq_zero h.1⟩
  | k + 1, l => by
    show l ∈ (List.range c).flatMap (fun i : Nat => (enumT c k).map fun l => (i : Int) :: l) ↔ _
    rw [List.mem_flatMap]
    refine ⟨fun h => ?_, fun h => ?_⟩
    · obtain ⟨i, hi, h1⟩ := h
      obtain ⟨m, hm, rfl⟩ := List.mem_map.1 h1
      obtain ⟨h2, h3⟩ := enumT_mem.1 hm
      have := List.mem_range.1 hi
      refine ⟨by simp [h2], fun x hx => ?_⟩
      rcases List.mem_cons.1 hx with rfl | hx
      · omega
      · exact h3 x hx
    · obtain ⟨h1, h2⟩ := h
      match l, h1, h2 with
      | x :: m, h1, h2 =>
        have hx := h2 x (by simp)
        refine ⟨x.toNat, List.mem_range.2 (by omega), List.mem_map.2 ⟨m, enumT_mem.2 ⟨by simpa using h1, fun y hy => h2 y (by simp [hy])⟩, ?_⟩⟩
        rw [show ((x.toNat : Nat) : Int) = x by omega]

theorem enumT_sorted (c : Nat) : ∀ k : Nat, (enumT c k).Pairwise fun a b => ¬ LBefore b a
  | 0 => List.pairwise_singleton _ _
  | k + 1 => by
    show ((List.range c).flatMap fun i : Nat => (enumT c k).map fun l => (i : Int) :: l).Pairwise _
    have key : ∀ R : List Nat, R.Pairwise (· < ·) → (R.flatMap fun i : Nat => (enumT c k).map fun l => (i : Int) :: l).Pairwise fun a b => ¬ LBefore b a := by
      intro R
      induction R with
      | nil => intro _; exact List.Pairwise.nil
      | cons i R ih =>
        intro hR
        rw [List.pairwise_cons] at hR
        rw [List.flatMap_cons, List.pairwise_append]
        refine ⟨?_, ih hR.2, fun a ha b hb hab => ?_⟩
        · rw [List.pairwise_map]
          refine (enumT_sorted c k).imp fun h hab => ?_
          have hab' : ((i : Int) < i ∨ (i : Int) = i ∧ LBefore _ _) := hab
          rcases hab' with h1 | ⟨_, h1⟩
          · omega
          · exact h h1
        · obtain ⟨l, _, rfl⟩ := List.mem_map.1 ha
          obtain ⟨j, hj, hb⟩ := List.mem_flatMap.1 hb
          obtain ⟨m, _, rfl⟩ := List.mem_map.1 hb
          have := hR.1 j hj
          have hab' : ((j : Int) < i ∨ (j : Int) = i ∧ LBefore m l) := hab
          omega
    exact key _ List.pairwise_lt_range

theorem hitS_mem {c : Nat} {v : Vers} {tunes l : List Int} : l ∈ hitS c v 0 tunes ↔ (l.length = tunes.length ∧ ∀ x ∈ l, 0 ≤ x ∧ x < c) ∧ Noted (plays v 0 l) tunes := by
  unfold hitS
  rw [List.mem_filter, enumT_mem, decide_eq_true_iff]

theorem hitS_sorted (c : Nat) (v : Vers) (tunes : List Int) : (hitS c v 0 tunes).Pairwise fun a b => ¬ LBefore b a := (enumT_sorted c _).filter _

theorem fitL_hitS (c : Nat) (v : Vers) (tunes : List Int) : fitL c v tunes tunes.length = hitS c v 0 tunes := by rw [← hitL_nil, hitL_hitS]

/-- None that fits comes before the first one. -/
theorem hit_first {c : Nat} {v : Vers} {tunes x other : List Int} {L : List (List Int)} (h : hitS c v 0 tunes = x :: L) (ho : other ∈ hitS c v 0 tunes) : ¬ LBefore other x := by
  have hs := hitS_sorted c v tunes
  rw [h] at hs ho
  rw [List.pairwise_cons] at hs
  rcases List.mem_cons.1 ho with rfl | ho
  · exact lbefore_irrefl _
  · exact hs.1 _ ho

theorem best_split {α : Type} {f : α → Nat} {l : List α} : ∀ {p : α × Nat}, bestOf f l = some p → ∃ l1 l2, l = l1 ++ p.1 :: l2 ∧ (∀ y ∈ l1, p.2 < f y) ∧ (∀ y ∈ l2, p.2 ≤ f y) ∧ p.2 = f p.1 := by
  induction l using snoc_ind with
  | h0 => intro p h; cases h
  | hs l x ih =>
    intro p h
    rw [best_snoc] at h
    cases hb : bestOf f l with
    | none =>
      rw [hb, better_none] at h; cases h
      rw [best_isSome] at hb
      subst hb
      exact ⟨[], [], rfl, (fun _ h => by cases h), (fun _ h => by cases h), rfl⟩
    | some y =>
      obtain ⟨l1, l2, e, h1, h2, h3⟩ := ih hb
      rw [hb] at h
      simp only [better] at h
      split at h
      · rename_i hlt
        cases h
        refine ⟨l1 ++ y.1 :: l2, [], by rw [← e], fun z hz => ?_, (fun _ h => by cases h), rfl⟩
        show f x < f z
        have hlt' : f x < y.2 := hlt
        rcases List.mem_append.1 hz with hz | hz
        · have := h1 z hz; omega
        · rcases List.mem_cons.1 hz with rfl | hz
          · omega
          · have := h2 z hz; omega
      · rename_i hlt
        cases h
        refine ⟨l1, l2 ++ [x], by rw [e]; simp, h1, fun z hz => ?_, h3⟩
        rcases List.mem_append.1 hz with hz | hz
        · exact h2 z hz
        · rw [List.mem_singleton] at hz; subst hz
          exact Nat.le_of_not_lt hlt

/-- None that fits is better than the best one, nor as good and before. -/
theorem best_first {f : List Int → Nat} {c : Nat} {v : Vers} {tunes other : List Int} {p : List Int × Nat} (h : bestOf f (hitS c v 0 tunes) = some p) (ho : other ∈ hitS c v 0 tunes) : p.2 ≤ f other ∧ (f other = p.2 → ¬ LBefore other p.1) := by
  obtain ⟨l1, l2, e, h1, h2, h3⟩ := best_split h
  have hs := hitS_sorted c v tunes
  rw [e] at hs ho
  rw [List.pairwise_append, List.pairwise_cons] at hs
  rcases List.mem_append.1 ho with ho | ho
  · have := h1 _ ho
    exact ⟨by omega, fun x => by omega⟩
  · rcases List.mem_cons.1 ho with rfl | ho
    · exact ⟨by omega, fun _ => lbefore_irrefl _⟩
    · exact ⟨h2 _ ho, fun _ => hs.2.1.1 _ ho⟩
end Go.Vm
