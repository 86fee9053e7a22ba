/-
  Contracts of functions of packages kelirref04, cue and slices, of which some range over functions, for books and lists as told at each; and plain mathematics on lists of cues. Conditions: at each theorem.
-/
import Derived.Test.YtdhdaadoehbopaaGreatDoorCb
import Derived.Test.YtdhdaadoehbopaaGreatDoorCc
import Derived.Test.YtdhdaadoehbopaaGreatDoorVc

/-
  Contracts: longer, Count of package kelirref04. (Own work.)
-/
namespace Go.Vm
open Go.Proofs

theorem Weaks.row [O : Outer] {S : Sit} {b : Nat} {l l' : List AV} (h : Weaks l l') : ∀ {o : Nat}, VRow S b o l → VRow S b o l' := by
  obtain ⟨H, ι, w⟩ := S
  induction h with
  | nil => intro o h; exact h
  | cons hv _ ih =>
    intro o h
    simp only [VRow] at h ⊢
    obtain ⟨⟨c, h1, h2⟩, h3⟩ := h
    exact ⟨⟨c, h1, hv H O ι w c h2⟩, ih h3⟩

theorem Weaks.length {l l' : List AV} (h : Weaks l l') : l.length = l'.length := by
  induction h with
  | nil => rfl
  | cons _ _ ih => simp [ih]

theorem wk_sl {H : List Blk} {n : Nat} {l l' : List AV} {tl : Tail} (h : Weaks l l') : WeakH H (.sl n l tl) (.sl n l' tl) := fun _ ι w c x => by
  simp only [VRel] at x ⊢
  obtain ⟨base, cap, hc, hle, hr, ht⟩ := x
  refine ⟨base, cap, hc, hle, ?_, by rw [← h.length]; exact ht⟩
  rcases hr with rfl | ⟨b, o, h1, h2, h3⟩
  · cases h; exact .inl rfl
  · exact .inr ⟨b, o, h1, by rw [← h.length]; exact h2, h.row h3⟩

/-- A list, longer by each of the first cues. -/
def ext (x : List Int) (q : Nat) : List (List Int) := (List.range q).map fun i : Nat => x ++ [(i : Int)]
/-- Each list, longer by each cue. -/
def longerL (c : Nat) (L : List (List Int)) : List (List Int) := L.flatMap fun l => ext l c

theorem ext_succ (x : List Int) (q : Nat) : ext x (q + 1) = ext x q ++ [x ++ [(q : Int)]] := by
  unfold ext; rw [List.range_succ, List.map_append]; rfl
theorem ext_length (x : List Int) (q : Nat) : (ext x q).length = q := by unfold ext; rw [List.length_map, List.length_range]
theorem longer_length (c : Nat) : ∀ L : List (List Int), (longerL c L).length = L.length * c
  | [] => by simp [longerL]
  | l :: L => by
    have ih := longer_length c L
    unfold longerL at ih ⊢
    rw [List.flatMap_cons, List.length_append, ih, ext_length, List.length_cons, Nat.succ_mul, Nat.add_comm]
theorem longer_snoc (c : Nat) (L : List (List Int)) (x : List Int) : longerL c (L ++ [x]) = longerL c L ++ ext x c := by
  unfold longerL; rw [List.flatMap_append, List.flatMap_cons, List.flatMap_nil, List.append_nil]

def rowL (L : List (List Int)) (id : Nat) : AV := .sl L.length (L.map eInts) (.own id L.length 1)
theorem under_rowL (n : Nat) {id : Nat} (h : id < n) (L : List (List Int)) : (rowL L id).under n := by
  unfold rowL
  simp only [AV.under]
  exact ⟨unders_map (under_eInts n) L, h⟩

theorem app_list {g : Nat → Option Blk} {n len id gen : Nat} {cells : List AV} {x : AV} (h1 : cells.length = len) (h2 : len < 2097152) (hg : g id = some (.row gen)) (ho : x.one = true) :
    appT Tryz.prog false g n 48 48 (.sl len cells (.own id gen 1)) (.sl 1 [x] .full) = some (.sl (len + 1) (cells ++ [x]) (.own id (gen + 1) 1), .set id (.row (gen + 1))) :=
  appT_own (e := 25) (bytes := 24) (z := .slice none 0 0) (by kernel_rfl) (by kernel_rfl) (by kernel_rfl) (by kernel_rfl) (by kernel_rfl) rfl (by omega) (by omega) (by omega) hg (by simp [ho])

theorem Weaks.snoc {a b : AV} (h : ∀ H, WeakH H a b) : ∀ l : List AV, Weaks (l ++ [a]) (l ++ [b])
  | [] => .cons h .nil
  | x :: l => .cons (fun H => WeakH.refl x H) (Weaks.snoc h l)

theorem wk_rowL {t : Trie Blk} {P : List (List Int)} {x : List Int} {q id : Nat} {tl : Tail} :
    Weak t (.sl ((P ++ ext x q).length + 1) ((P ++ ext x q).map eInts ++ [.sl (x.length + 1) (x.map n' ++ [n' q]) tl]) (.own id ((P ++ ext x q).length + 1) 1)) (rowL (P ++ ext x (q + 1)) id) := fun _ H _ => by
  unfold rowL
  have e : P ++ ext x (q + 1) = (P ++ ext x q) ++ [x ++ [(q : Int)]] := by rw [ext_succ, List.append_assoc]
  rw [e]
  generalize P ++ ext x q = M
  rw [List.length_append, List.map_append]
  refine wk_sl (Weaks.snoc (fun H => ?_) _)
  unfold eInts
  rw [List.length_append, List.map_append]
  exact WeakH.tail _ _ _ H

theorem row_ext {P : List (List Int)} {x : List Int} {q : Nat} : some (Blk.row ((P ++ ext x q).length + 1)) = some (Blk.row (P ++ ext x (q + 1)).length) := by
  rw [ext_succ, ← List.append_assoc]
  generalize P ++ ext x q = M
  rw [List.length_append]
  rfl

set_option maxRecDepth 100000 in
theorem c_longer {b : Book} (h0 : 0 ≤ b.cues) (L : List (List Int)) (hb : L.length * b.cues.toNat ≤ 1000000) (hL : L.length ≤ 1000000) (hl : ∀ l ∈ L, l.length < 1000) (H : List Blk) :
    ACall Tryz.prog 102 [eBook b, eLists L] H (.ret (eLists (longerL b.cues.toNat L))) H := by
  refine fn_rule (m := false) (fn := Tryz.f102) (c := (Tryz.f102.body).getD .skip) mixed (by kernel_rfl) (by kernel_rfl) (of_decide_eq_true (by kernel_rfl)) ?_ ?_ ?_ H
  · exact ⟨under_eBook 0 _, under_eLists 0 _, trivial⟩
  · exact under_eLists 0 _
  · refine LoopG.ghost (LoopG.at (n0 := 2) rfl ?_)
    refine loop_up mixed (m := false) (fun r => [(1, eLists L), (2, .ptr 0 0), (5, rowL (longerL b.cues.toNat (L.take r)) 1), (6, n' r)]) (fun r => [(0, bBox b), (1, .row (longerL b.cues.toNat (L.take r)).length)]) (fun _ => True) L.length 1 (leb rfl) trivial ?_ ?_ ?_
    · exact ⟨⟨_, rfl, Weak.refl _ _, under_eLists _ _⟩, ⟨_, rfl, Weak.refl _ _, ltb rfl⟩, ⟨_, rfl, Weak.own (r := 1) (g := 0) 1 rfl, ⟨trivial, ltb rfl⟩⟩, ⟨_, rfl, Weak.refl _ _, trivial⟩, trivial⟩
    · exact ⟨⟨rfl, ltb rfl⟩, ⟨rfl, ltb rfl⟩, trivial⟩
    · intro r hr _
      refine If.mk (fun h1 => ?_) (fun h1 => ?_)
      · refine IfB.mk (fun _ => ?_) (fun e => by cases e)
        obtain ⟨x, hx, htk, hxm⟩ := at_some (l := L) (r := r) (by omega)
        have hxl := hl x hxm
        refine LoopG.at (n0 := 2) rfl (loop_up mixed (m := false) (fun q => [(1, eLists L), (2, .ptr 0 0), (5, rowL (longerL b.cues.toNat (L.take r) ++ ext x q) 1), (6, n' r), (7, n' q)]) (fun q => [(0, bBox b), (1, .row (longerL b.cues.toNat (L.take r) ++ ext x q).length)]) (fun _ => True) b.cues.toNat 1 (leb rfl) trivial ?_ ?_ ?_)
        · refine ⟨⟨_, rfl, Weak.refl _ _, under_eLists _ _⟩, ⟨_, rfl, Weak.refl _ _, ltb rfl⟩, ⟨_, rfl, Weak.of_eq (?_), under_rowL _ (ltb rfl) _⟩, ⟨_, rfl, Weak.refl _ _, trivial⟩, ⟨_, rfl, Weak.refl _ _, trivial⟩, trivial⟩
          show _ = rowL (longerL b.cues.toNat (L.take r) ++ ext x 0) 1
          rw [show ext x 0 = [] from rfl, List.append_nil]
        · refine ⟨⟨rfl, ltb rfl⟩, ⟨?_, ltb rfl⟩, trivial⟩
          show _ = some (Blk.row (longerL b.cues.toNat (L.take r) ++ ext x 0).length)
          rw [show ext x 0 = [] from rfl, List.append_nil]
          rfl
        · intro q hq _
          refine If.mk (fun h2 => ?_) (fun h2 => ?_)
          · refine IfB.mk (fun _ => ?_) (fun e => by cases e)
            refine Ex.mk _ (jx_lists (r := r) rfl hx) ?_
            refine Ex.mk _ rfl ?_
            have hq' : q < b.cues.toNat := by omega
            have hml := longer_length b.cues.toNat (L.take r)
            have hmt : (L.take r).length = r := by rw [List.length_take]; omega
            have hmb : r * b.cues.toNat + b.cues.toNat ≤ L.length * b.cues.toNat := by
              have : (r + 1) * b.cues.toNat ≤ L.length * b.cues.toNat := Nat.mul_le_mul_right _ (by omega)
              rwa [Nat.succ_mul] at this
            have hmm : (longerL b.cues.toNat (L.take r) ++ ext x q).length < 2000000 := by rw [List.length_append, hml, hmt, ext_length]; omega
            by_cases hx0 : x = []
            · subst hx0
              refine Ex.mk _ rfl ?_
              refine Ex.mk _ rfl ?_
              refine ex_app _ _ (app_list (List.length_map _) (by omega) rfl rfl) ?_
              refine Side.mk (fits64 (by omega)) ?_
              exact ⟨leb rfl, rfl, by omega, trivial, ⟨⟨_, rfl, Weak.refl _ _, under_eLists _ _⟩, ⟨_, rfl, Weak.refl _ _, ltb rfl⟩, ⟨_, rfl, wk_rowL, under_rowL _ (ltb rfl) _⟩, ⟨_, rfl, Weak.refl _ _, trivial⟩, ⟨_, rfl, Weak.refl _ _, trivial⟩, trivial⟩, ⟨⟨rfl, ltb rfl⟩, ⟨row_ext, ltb rfl⟩, trivial⟩, ⟨_, rfl, trivial⟩, trivial⟩
            · refine ex_app _ _ (app_nilI hx0 (by omega)) ?_
              refine ex_app _ _ (app_int (List.length_map _) (by omega) rfl) ?_
              refine ex_app _ _ (app_list (List.length_map _) (by omega) rfl rfl) ?_
              refine Side.mk (fits64 (by omega)) ?_
              exact ⟨leb rfl, rfl, by omega, trivial, ⟨⟨_, rfl, Weak.refl _ _, under_eLists _ _⟩, ⟨_, rfl, Weak.refl _ _, ltb rfl⟩, ⟨_, rfl, wk_rowL, under_rowL _ (ltb rfl) _⟩, ⟨_, rfl, Weak.refl _ _, trivial⟩, ⟨_, rfl, Weak.refl _ _, trivial⟩, trivial⟩, ⟨⟨rfl, ltb rfl⟩, ⟨row_ext, ltb rfl⟩, trivial⟩, ⟨_, rfl, trivial⟩, trivial⟩
          · refine IfB.mk (fun e => by cases e) (fun _ => ?_)
            refine ⟨leb rfl, ?_⟩
            refine Side.mk (fits64 (by omega)) ?_
            have eq : q = b.cues.toNat := by omega
            subst eq
            have e5 : longerL b.cues.toNat (L.take (r + 1)) = longerL b.cues.toNat (L.take r) ++ ext x b.cues.toNat := by rw [htk, longer_snoc]
            refine ⟨leb rfl, rfl, by omega, trivial, ⟨⟨_, rfl, Weak.refl _ _, under_eLists _ _⟩, ⟨_, rfl, Weak.refl _ _, ltb rfl⟩, ⟨_, rfl, Weak.of_eq (?_), under_rowL _ (ltb rfl) _⟩, ⟨_, rfl, Weak.refl _ _, trivial⟩, trivial⟩, ⟨⟨rfl, ltb rfl⟩, ⟨?_, ltb rfl⟩, trivial⟩, ⟨_, rfl, trivial⟩, trivial⟩
            · rw [e5]
            · rw [e5]; rfl
      · refine IfB.mk (fun e => by cases e) (fun _ => ?_)
        have er : r = L.length := by omega
        subst er
        refine ⟨leb rfl, .inl rfl, FinG.mk _ rfl rfl ?_⟩
        show AV.sl _ (AV.freezes _ ((longerL b.cues.toNat (L.take L.length)).map eInts)) .unk = _
        rw [freezes_map (fun _ => freeze_eInts _ _), List.take_length]
        rfl
end Go.Vm

/-
  Contracts: Count of package kelirref04. (Own work.)
-/
namespace Go.Vm
open Go.Proofs

/-- The lists of so many cues for which the version plays the tunes. -/
def fitL (c : Nat) (v : Vers) (tunes : List Int) : Nat → List (List Int)
  | 0 => [[]]
  | k + 1 => (longerL c (fitL c v tunes k)).filter fun l => decide (Noted (plays v 0 l) (tunes.take (k + 1)))

theorem longer_mem {c k : Nat} {L : List (List Int)} (h : ∀ l ∈ L, l.length = k ∧ ∀ x ∈ l, 0 ≤ x ∧ x < c) {l : List Int} (hl : l ∈ longerL c L) : l.length = k + 1 ∧ ∀ x ∈ l, 0 ≤ x ∧ x < c := by
  unfold longerL at hl
  obtain ⟨l0, h0, h1⟩ := List.mem_flatMap.1 hl
  unfold ext at h1
  obtain ⟨i, hi, rfl⟩ := List.mem_map.1 h1
  obtain ⟨hl, hm⟩ := h l0 h0
  refine ⟨by simp [hl], fun x hx => ?_⟩
  rcases List.mem_append.1 hx with hx | hx
  · exact hm x hx
  · rw [List.mem_singleton] at hx; subst hx
    have := List.mem_range.1 hi
    omega

theorem fitL_mem {c : Nat} {v : Vers} {tunes : List Int} : ∀ {k : Nat} {l : List Int}, l ∈ fitL c v tunes k → l.length = k ∧ ∀ x ∈ l, 0 ≤ x ∧ x < c
  | 0, l, h => by
    unfold fitL at h
    rw [List.mem_singleton] at h; subst h
    exact ⟨rfl, fun x h => by cases h⟩
  | k + 1, l, h => by
    unfold fitL at h
    obtain ⟨h, _⟩ := List.mem_filter.1 h
    unfold longerL at h
    obtain ⟨l0, h0, h1⟩ := List.mem_flatMap.1 h
    unfold ext at h1
    obtain ⟨i, hi, rfl⟩ := List.mem_map.1 h1
    obtain ⟨hl, hm⟩ := fitL_mem h0
    refine ⟨by simp [hl], fun x hx => ?_⟩
    rcases List.mem_append.1 hx with hx | hx
    · exact hm x hx
    · rw [List.mem_singleton] at hx; subst hx
      have := List.mem_range.1 hi
      omega

theorem fitL_length (c : Nat) (v : Vers) (tunes : List Int) : ∀ k, (fitL c v tunes k).length ≤ c ^ k
  | 0 => by simp [fitL]
  | k + 1 => by
    have ih := fitL_length c v tunes k
    unfold fitL
    refine Nat.le_trans (List.length_filter_le _ _) ?_
    rw [longer_length, Nat.pow_succ]
    exact Nat.mul_le_mul_right _ ih

theorem fitL_small {c : Nat} (hc : c ≤ 4) (v : Vers) (tunes : List Int) {k : Nat} (hk : k ≤ 8) : (fitL c v tunes k).length ≤ 65536 :=
  Nat.le_trans (fitL_length c v tunes k) (Nat.le_trans (Nat.pow_le_pow_left hc k) (Nat.le_trans (Nat.pow_le_pow_right (by omega) hk) (by decide)))

def countR (L : List (List Int)) : AV := match L with
  | [] => .tup [n' 0, .lit (.slice none 0 0)]
  | x :: L => .tup [n' (x :: L).length, eInts x]

theorem wk_lists0 (H : List Blk) : WeakH H (.sl 1 [.lit (.slice none 0 0)] .full) (eLists [[]]) := fun O ι w c h =>
  WeakH.tail _ _ _ H O ι w c (wk_sl (l' := [eInts []]) (.cons (fun H => WeakH.nil H) .nil) O ι w c h)
theorem Weak.row {t : Trie Blk} (L : List (List Int)) (id : Nat) : Weak t (rowL L id) (eLists L) := fun _ H _ => WeakH.tail _ _ _ H

theorem aop_slice {m : Bool} {g : Nat → Option Blk} {n : Nat} {ρ : Operand → Option AV} {o : Oper} {x i : Operand} {l : List Int} {k : Nat} {z : Int} (ho : o.op = .slice 25 x none (some i) none) (hx : ρ x = some (eInts l)) (hi : ρ i = some (n' z)) (hz : z = (k : Int)) (hk : k ≤ l.length) :
    aopF Tryz.prog m g n ρ o = some (.val (eInts (l.take k)) .same) := by
  subst hz
  rw [aopF_fun]
  obtain ⟨dst, op, ty, pos, after, guard⟩ := o
  simp only at ho
  subst ho
  have hu : Tryz.prog.underlying 25 = some (.slice 3) := by kernel_rfl
  have hs : tsz Tryz.prog 3 = some 1 := by kernel_rfl
  have e : sliceA Tryz.prog 25 (eInts l) none (some k) none = some (eInts (l.take k)) := by
    unfold eInts sliceA
    simp only [hu, hs]
    rw [if_pos (by simp; exact hk)]
    simp [List.length_take, Nat.min_eq_left hk, List.map_take]
  have hn : natOf (some (n' (k : Int))) = some (some k) := by simp [natOf, n']
  have ha : ∀ H, aop Tryz.prog m H ρ { dst := dst, op := Op.slice 25 x none (some i) none, type := ty, pos := pos, after := after, guard := guard } = some (.val (eInts (l.take k)) H) := fun H => by
    simp only [aop, hx, Option.bind_some, hi, hn, Option.bind_none]
    simp only [natOf, e]
    rfl
  simp only [aopT]
  unfold plainT
  rw [ha]

set_option maxRecDepth 100000 in
theorem c_refCount {b : Book} (hb : inI b.cues 1 4) {v : Vers} (hv : VersOk v b.cues.toNat) (hs : 0 < v.length) {tunes : List Int} (ht : LTunes b tunes) (H : List Blk) :
    ACall Tryz.prog 47 [eBook b, eVersion v, eInts tunes] H (.ret (countR (fitL b.cues.toNat v tunes tunes.length))) H := by
  have htl := ht.2
  unfold inI at hb
  refine fn_rule (m := false) (fn := Tryz.f47) (c := (Tryz.f47.body).getD .skip) mixed (by kernel_rfl) (by kernel_rfl) (of_decide_eq_true (by kernel_rfl)) ?_ ?_ ?_ H
  · exact ⟨under_eBook 0 _, under_eVersion 0 _, under_eInts 0 _, trivial⟩
  · cases fitL b.cues.toNat v tunes tunes.length with
    | nil => exact under_tup2 trivial trivial
    | cons x L => exact under_tup2 trivial (under_eInts 0 _)
  · refine LoopG.at (n0 := 2) rfl (loop_up mixed (m := false) (fun r => [(2, eInts tunes), (3, .ptr 0 0), (4, .ptr 1 0), (8, eLists (fitL b.cues.toNat v tunes r)), (9, n' r)]) (fun _ => [(0, bBox b), (1, vBox v)]) (fun _ => True) tunes.length 2 (leb rfl) trivial ?_ ?_ ?_)
    · exact ⟨⟨_, rfl, Weak.refl _ _, under_eInts _ _⟩, ⟨_, rfl, Weak.refl _ _, ltb rfl⟩, ⟨_, rfl, Weak.refl _ _, ltb rfl⟩, ⟨_, rfl, fun _ H _ => wk_lists0 H, under_eLists _ _⟩, ⟨_, rfl, Weak.refl _ _, trivial⟩, trivial⟩
    · exact ⟨⟨rfl, ltb rfl⟩, ⟨rfl, ltb rfl⟩, trivial⟩
    · intro r hr _
      have hfl := fitL_small (c := b.cues.toNat) (by omega) v tunes (k := r) (by omega)
      refine If.mk (fun h1 => ?_) (fun h1 => ?_)
      · refine IfB.mk (fun _ => ?_) (fun e => by cases e)
        refine CallG.pure _ (c_longer (by omega) (fitL b.cues.toNat v tunes r) (by have : (fitL b.cues.toNat v tunes r).length * b.cues.toNat ≤ 65536 * 4 := Nat.mul_le_mul hfl (by omega); omega) (by omega) (fun l hl => by have := (fitL_mem hl).1; omega)) ?_
        have hll : (longerL b.cues.toNat (fitL b.cues.toNat v tunes r)).length ≤ 65536 * 4 := by rw [longer_length]; exact Nat.mul_le_mul hfl (by omega)
        have hmem : ∀ l ∈ longerL b.cues.toNat (fitL b.cues.toNat v tunes r), l.length = r + 1 ∧ ∀ x ∈ l, 0 ≤ x ∧ x < b.cues.toNat := fun l hl => longer_mem (fun l h => fitL_mem h) hl
        have hsucc : fitL b.cues.toNat v tunes (r + 1) = (longerL b.cues.toNat (fitL b.cues.toNat v tunes r)).filter fun l => decide (Noted (plays v 0 l) (tunes.take (r + 1))) := rfl
        generalize longerL b.cues.toNat (fitL b.cues.toNat v tunes r) = LL at hll hmem hsucc ⊢
        refine LoopG.ghost (LoopG.at (n0 := 3) rfl (loop_up mixed (m := false) (fun q => [(2, eInts tunes), (3, .ptr 0 0), (4, .ptr 1 0), (8, rowL ((LL.take q).filter fun l => decide (Noted (plays v 0 l) (tunes.take (r + 1)))) 2), (9, n' r), (10, eLists LL), (11, n' q)])
          (fun q => [(0, bBox b), (1, vBox v), (2, .row ((LL.take q).filter fun l => decide (Noted (plays v 0 l) (tunes.take (r + 1)))).length)]) (fun _ => True) LL.length 2 (leb rfl) trivial ?_ ?_ ?_))
        · exact ⟨⟨_, rfl, Weak.refl _ _, under_eInts _ _⟩, ⟨_, rfl, Weak.refl _ _, ltb rfl⟩, ⟨_, rfl, Weak.refl _ _, ltb rfl⟩, ⟨_, rfl, Weak.own (r := 2) (g := 0) 1 rfl, ⟨trivial, ltb rfl⟩⟩, ⟨_, rfl, Weak.refl _ _, trivial⟩, ⟨_, rfl, Weak.refl _ _, under_eLists _ _⟩, ⟨_, rfl, Weak.refl _ _, trivial⟩, trivial⟩
        · exact ⟨⟨rfl, ltb rfl⟩, ⟨rfl, ltb rfl⟩, ⟨rfl, ltb rfl⟩, trivial⟩
        · intro q hq _
          refine If.mk (fun h2 => ?_) (fun h2 => ?_)
          · refine IfB.mk (fun _ => ?_) (fun e => by cases e)
            obtain ⟨l, hl, htk, hlm⟩ := at_some (l := LL) (r := q) (by omega)
            obtain ⟨hll1, hll2⟩ := hmem l hlm
            refine Ex.mk _ (jx_lists (r := q) rfl hl) ?_
            refine Ex.mk _ rfl ?_
            refine CallG.pure _ (c_refPlays hv hs (fun c hc => by have := hll2 c hc; omega) (by omega)) ?_
            refine Side.mk (fits64 (by omega)) ?_
            refine Ex.mk _ (aop_slice rfl rfl rfl (show ((r : Int) + 1) = ((r + 1 : Nat) : Int) by omega) (by omega)) ?_
            have htl2 : (tunes.take (r + 1)).length = r + 1 := by rw [List.length_take]; omega
            have hfil : ∀ {P : List Int → Bool}, ((LL.take q).filter P).length ≤ 65536 * 4 := fun {P} => Nat.le_trans (List.length_filter_le _ _) (by rw [List.length_take]; omega)
            refine CallG.bool (c_fits _ _ (by rw [plays_length]; omega) (by omega) (fun x hx => heard_m1 ht x (List.mem_of_mem_take hx))) (fun h3 => ?_) (fun h3 => ?_)
            · have e5 : (LL.take (q + 1)).filter (fun l => decide (Noted (plays v 0 l) (tunes.take (r + 1)))) = (LL.take q).filter (fun l => decide (Noted (plays v 0 l) (tunes.take (r + 1)))) ++ [l] := by
                rw [htk, List.filter_append, List.filter_cons, if_pos (decide_eq_true h3)]; rfl
              refine IfB.mk (fun _ => ?_) (fun e => by cases e)
              refine Ex.mk _ (jx_lists (r := q) rfl hl) ?_
              refine Ex.mk _ rfl ?_
              refine ex_app _ _ (app_list (List.length_map _) (by have := hfil (P := fun l => decide (Noted (plays v 0 l) (tunes.take (r + 1)))); omega) rfl rfl) ?_
              refine Side.mk (fits64 (by omega)) ?_
              refine ⟨leb rfl, rfl, by omega, trivial, ⟨⟨_, rfl, Weak.refl _ _, under_eInts _ _⟩, ⟨_, rfl, Weak.refl _ _, ltb rfl⟩, ⟨_, rfl, Weak.refl _ _, ltb rfl⟩, ⟨_, rfl, Weak.of_eq (?_), under_rowL _ (ltb rfl) _⟩, ⟨_, rfl, Weak.refl _ _, trivial⟩, ⟨_, rfl, Weak.refl _ _, under_eLists _ _⟩, ⟨_, rfl, Weak.refl _ _, trivial⟩, trivial⟩, ⟨⟨rfl, ltb rfl⟩, ⟨rfl, ltb rfl⟩, ⟨?_, ltb rfl⟩, trivial⟩, ⟨_, rfl, trivial⟩, trivial⟩
              · rw [e5]; unfold rowL; rw [List.length_append, List.map_append]; rfl
              · rw [e5, List.length_append]; rfl
            · have e5 : (LL.take (q + 1)).filter (fun l => decide (Noted (plays v 0 l) (tunes.take (r + 1)))) = (LL.take q).filter (fun l => decide (Noted (plays v 0 l) (tunes.take (r + 1)))) := by
                rw [htk, List.filter_append, List.filter_cons, if_neg (by simpa using h3), List.filter_nil, List.append_nil]
              refine IfB.mk (fun e => by cases e) (fun _ => ?_)
              refine Side.mk (fits64 (by omega)) ?_
              refine ⟨leb rfl, rfl, by omega, trivial, ⟨⟨_, rfl, Weak.refl _ _, under_eInts _ _⟩, ⟨_, rfl, Weak.refl _ _, ltb rfl⟩, ⟨_, rfl, Weak.refl _ _, ltb rfl⟩, ⟨_, rfl, Weak.of_eq (?_), under_rowL _ (ltb rfl) _⟩, ⟨_, rfl, Weak.refl _ _, trivial⟩, ⟨_, rfl, Weak.refl _ _, under_eLists _ _⟩, ⟨_, rfl, Weak.refl _ _, trivial⟩, trivial⟩, ⟨⟨rfl, ltb rfl⟩, ⟨rfl, ltb rfl⟩, ⟨?_, ltb rfl⟩, trivial⟩, trivial⟩
              · rw [e5]
              · rw [e5]; rfl
          · refine IfB.mk (fun e => by cases e) (fun _ => ?_)
            refine ⟨leb rfl, ?_⟩
            refine Side.mk (fits64 (by omega)) ?_
            have eq : q = LL.length := by omega
            subst eq
            refine ⟨leb rfl, rfl, by omega, trivial, ⟨⟨_, rfl, Weak.refl _ _, under_eInts _ _⟩, ⟨_, rfl, Weak.refl _ _, ltb rfl⟩, ⟨_, rfl, Weak.refl _ _, ltb rfl⟩, ⟨_, rfl, ?_, under_eLists _ _⟩, ⟨_, rfl, Weak.refl _ _, trivial⟩, trivial⟩, ⟨⟨rfl, ltb rfl⟩, ⟨rfl, ltb rfl⟩, trivial⟩, trivial⟩
            rw [hsucc, List.take_length]
            exact Weak.row _ _
      · refine IfB.mk (fun e => by cases e) (fun _ => ?_)
        have er : r = tunes.length := by omega
        subst er
        refine ⟨leb rfl, ?_⟩
        cases hF : fitL b.cues.toNat v tunes tunes.length with
        | nil =>
          refine If.mk (fun _ => ?_) (fun h => absurd (by decide) h)
          refine IfB.mk (fun _ => ?_) (fun e => by cases e)
          exact ⟨.inl rfl, FinG.mk _ rfl rfl rfl⟩
        | cons x L =>
          refine If.mk (fun h => absurd h (by rw [List.length_cons]; omega)) (fun _ => ?_)
          refine IfB.mk (fun e => by cases e) (fun _ => ?_)
          refine Ex.mk _ (jx_lists (r := 0) rfl rfl) ?_
          refine Ex.mk _ rfl ?_
          refine ⟨.inl rfl, FinG.mk _ rfl rfl ?_⟩
          show AV.tup [_, AV.freeze _ (eInts x)] = _
          rw [freeze_eInts]
          rfl
end Go.Vm

/-
  Contracts: slices.Clone of ints, where its result is appended to. (Own work.)
-/
namespace Go.Vm
open Go.Proofs

set_option maxRecDepth 100000 in
theorem c_cloneI00 (cap : Nat) (H : List Blk) : ACall Tryz.prog 135 [.lit (.slice none 0 cap)] H (.ret (.lit (.slice none 0 0))) H := by
  refine fn_rule (m := false) (fn := Tryz.f135) (c := (Tryz.f135.body).getD .skip) mixed (by kernel_rfl) (by kernel_rfl) (of_decide_eq_true (by kernel_rfl)) ?_ ?_ ?_ H
  · exact ⟨trivial, trivial⟩
  · trivial
  · refine IfB.mk (fun _ => ?_) (fun e => by cases e)
    exact ⟨.inl rfl, FinG.mk _ rfl rfl rfl⟩

set_option maxRecDepth 100000 in
theorem c_cloneI01 (a : Addr) (cap : Nat) (H : List Blk) : ACall Tryz.prog 135 [.lit (.slice (some a) 0 cap)] H (.ret (.sl 0 [] .full)) H := by
  refine fn_rule (m := false) (fn := Tryz.f135) (c := (Tryz.f135.body).getD .skip) mixed (by kernel_rfl) (by kernel_rfl) (of_decide_eq_true (by kernel_rfl)) ?_ ?_ ?_ H
  · exact ⟨trivial, trivial⟩
  · exact ⟨trivial, trivial⟩
  · refine IfB.mk (fun e => by cases e) (fun _ => ?_)
    refine Ex.mk _ rfl ?_
    exact ⟨.inl rfl, FinG.mk _ rfl rfl rfl⟩

set_option maxRecDepth 100000 in
/-- Clone of ints, where its result is appended to. -/
theorem CallG.cloneI {l : List Int} {t : Trie Blk} {n : Nat} {K Kp : AV → Trie Blk → Nat → Nat → Prop} (hl : l.length < 1000000) (hn : n ≤ noLo) (k : K (.sl l.length (l.map n') (.own n 0 1)) (set t n (.row 0)) (n + 1) noLo) : CallG Tryz.prog 135 [eInts l] t n K Kp := by
  refine .ret fun H hH => ?_
  have hlen := hH.len
  have hrow : (H ++ [Blk.row 0])[n]? = some (.row 0) := by rw [← hlen]; simp
  cases l with
  | nil =>
    refine ⟨_, _, _, noLo, H ++ [.row 0], hH.push _, ?_, Keep.append _ _ _, k⟩
    refine ACall.empty fun b cap => ?_
    cases b with
    | none => exact (c_cloneI00 cap H).more (.row 0) (WeakH.own 1 hrow) rfl
    | some a => exact (c_cloneI01 a cap H).more (.row 0) (WeakH.fullOwn 1 hrow) rfl
  | cons e l =>
    have key : ∃ H', HT (setL t [(n, .row 0)]) (n + 1) H' ∧ ACall Tryz.prog 135 [eInts (e :: l)] H (.ret (.sl (e :: l).length ((e :: l).map n') (.own n 0 1))) H' ∧ Keep H H' noLo := by
      refine fn_new (m := false) (fn := Tryz.f135) (c := (Tryz.f135.body).getD .skip) mixed (by kernel_rfl) (by kernel_rfl) (of_decide_eq_true (by kernel_rfl)) ?_ H hH
      refine IfB.mk (fun e => by cases e) (fun _ => ?_)
      refine ex_app _ _ (appT_full (e := 3) (bytes := 8) (z := .int .i64 0) (by kernel_rfl) (by kernel_rfl) (by kernel_rfl) (by kernel_rfl) (by kernel_rfl) (src_ints _ (e :: l)) (by simp) rfl (by simp at hl ⊢; omega)) ?_
      refine ⟨.inl rfl, hn, rfl, ⟨⟨get_set_same _ _ _, Nat.lt_succ_self _⟩, trivial⟩, FinF.mk _ rfl rfl ?_⟩
      show AV.sl (0 + (e :: l).length) ([] ++ (e :: l).map n') _ = _
      rw [List.nil_append, Nat.zero_add]
    obtain ⟨H', h1, h2, h3⟩ := key
    exact ⟨_, _, _, noLo, H', h1, h2, h3, k⟩
end Go.Vm

/-
  The lists of cues in the order in which package cue goes through them; those that fit are the document's. (Own work: plain mathematics.)
-/
namespace Go.Vm
open Go.Proofs

/-- All longer lists by so many cues, in the order of the search. -/
def enumL (c : Nat) : Nat → List Int → List (List Int)
  | 0, now => [now]
  | k + 1, now => (List.range c).flatMap fun i : Nat => enumL c k (now ++ [(i : Int)])

theorem enum_longer (c : Nat) : ∀ (k : Nat) (now : List Int), enumL c (k + 1) now = longerL c (enumL c k now)
  | 0, now => by
    show (List.range c).flatMap (fun i : Nat => [now ++ [(i : Int)]]) = longerL c [now]
    unfold longerL ext
    rw [List.flatMap_cons, List.flatMap_nil, List.append_nil]
    generalize List.range c = R
    induction R with
    | nil => rfl
    | cons a R ih => rw [List.flatMap_cons, ih]; rfl
  | k + 1, now => by
    show (List.range c).flatMap (fun i : Nat => enumL c (k + 1) (now ++ [(i : Int)])) = longerL c ((List.range c).flatMap fun i : Nat => enumL c k (now ++ [(i : Int)]))
    have e : (fun i : Nat => enumL c (k + 1) (now ++ [(i : Int)])) = fun i : Nat => longerL c (enumL c k (now ++ [(i : Int)])) := funext fun i => enum_longer c k _
    rw [e]
    generalize List.range c = R
    induction R with
    | nil => rfl
    | cons a R ih =>
      rw [List.flatMap_cons, List.flatMap_cons, ih]
      unfold longerL
      rw [List.flatMap_append]

theorem enum_length (c : Nat) : ∀ (k : Nat) (now : List Int), (enumL c k now).length = c ^ k
  | 0, _ => rfl
  | k + 1, now => by rw [enum_longer, longer_length, enum_length c k now, Nat.pow_succ]

theorem enum_mem {c : Nat} : ∀ {k : Nat} {now l : List Int}, l ∈ enumL c k now → ∃ m, l = now ++ m ∧ m.length = k ∧ ∀ x ∈ m, 0 ≤ x ∧ x < c
  | 0, now, l, h => by
    have : l = now := by simpa [enumL] using h
    exact ⟨[], by simp [this], rfl, fun _ h => by cases h⟩
  | k + 1, now, l, h => by
    obtain ⟨i, hi, h1⟩ := List.mem_flatMap.1 h
    obtain ⟨m, rfl, h2, h3⟩ := enum_mem h1
    have := List.mem_range.1 hi
    refine ⟨(i : Int) :: m, by simp, by simp [h2], fun x hx => ?_⟩
    rcases List.mem_cons.1 hx with rfl | hx
    · omega
    · exact h3 x hx

theorem noted_prefix {v : Vers} {tunes : List Int} {l : List Int} {x : Int} {k : Nat} (hl : l.length = k) (h : Noted (plays v 0 (l ++ [x])) (tunes.take (k + 1))) : Noted (plays v 0 l) (tunes.take k) := by
  intro i hi h0
  rw [List.length_take] at hi
  have hk : i < k := by omega
  have e1 : (tunes.take k).getD i 0 = tunes.getD i 0 := by simp [List.getD_eq_getElem?_getD, hk]
  have e2 : (tunes.take (k + 1)).getD i 0 = tunes.getD i 0 := by simp [List.getD_eq_getElem?_getD, show i < k + 1 by omega]
  have e3 : (plays v 0 (l ++ [x])).getD i 0 = (plays v 0 l).getD i 0 := by
    rw [plays_snoc, List.getD_eq_getElem?_getD, List.getD_eq_getElem?_getD, List.getElem?_append_left (by rw [plays_length]; omega)]
  have := h i (by rw [List.length_take]; omega) (by rw [e2, ← e1]; exact h0)
  rw [e1, ← e3, this, e2]

theorem filter_longer {c : Nat} {p q : List Int → Bool} : ∀ {L : List (List Int)}, (∀ l ∈ L, ∀ x : Int, p (l ++ [x]) = true → q l = true) → (longerL c (L.filter q)).filter p = (longerL c L).filter p
  | [], _ => rfl
  | l :: L, h => by
    have ih := filter_longer (c := c) (p := p) (q := q) fun l' hl' => h l' (List.mem_cons_of_mem _ hl')
    have hL : longerL c (l :: L) = ext l c ++ longerL c L := by unfold longerL; rw [List.flatMap_cons]
    rw [hL, List.filter_append, List.filter_cons]
    cases hq : q l with
    | true =>
      rw [if_pos rfl]
      have hL2 : longerL c (l :: L.filter q) = ext l c ++ longerL c (L.filter q) := by unfold longerL; rw [List.flatMap_cons]
      rw [hL2, List.filter_append, ih]
    | false =>
      rw [if_neg (by simp), ih]
      have : (ext l c).filter p = [] := by
        rw [List.filter_eq_nil_iff]
        intro y hy hp
        unfold ext at hy
        obtain ⟨i, _, rfl⟩ := List.mem_map.1 hy
        have := h l List.mem_cons_self _ hp
        rw [hq] at this; cases this
      rw [this, List.nil_append]

/-- The document's lists are those of the search that fit. -/
theorem fitL_enum {c : Nat} {v : Vers} {tunes : List Int} : ∀ {k : Nat}, fitL c v tunes k = (enumL c k []).filter fun l => decide (Noted (plays v 0 l) (tunes.take k))
  | 0 => by
    show [[]] = [[]].filter _
    have h0 : Noted (plays v 0 []) (tunes.take 0) := fun i hi => by simp at hi
    rw [List.filter_cons, if_pos (decide_eq_true h0)]
    rfl
  | k + 1 => by
    show (longerL c (fitL c v tunes k)).filter _ = _
    rw [fitL_enum (k := k), enum_longer, filter_longer]
    intro l hl x hp
    obtain ⟨m, rfl, h2, _⟩ := enum_mem hl
    exact decide_eq_true (noted_prefix (by simpa using h2) (of_decide_eq_true hp))

/-- The lists that fit behind a beginning. -/
def hitL (c : Nat) (v : Vers) (tunes now : List Int) : List (List Int) := (enumL c (tunes.length - now.length) now).filter fun l => decide (Noted (plays v 0 l) tunes)
/-- Those behind it and one of the first cues. -/
def hitU (c : Nat) (v : Vers) (tunes now : List Int) (r : Nat) : List (List Int) := (List.range r).flatMap fun i : Nat => hitL c v tunes (now ++ [(i : Int)])

theorem hitU_zero (c : Nat) (v : Vers) (tunes now : List Int) : hitU c v tunes now 0 = [] := rfl
theorem hitU_succ (c : Nat) (v : Vers) (tunes now : List Int) (r : Nat) : hitU c v tunes now (r + 1) = hitU c v tunes now r ++ hitL c v tunes (now ++ [(r : Int)]) := by
  unfold hitU
  rw [List.range_succ, List.flatMap_append, List.flatMap_cons, List.flatMap_nil, List.append_nil]
theorem hitL_full {c : Nat} {v : Vers} {tunes now : List Int} (h : now.length = tunes.length) : hitL c v tunes now = if Noted (plays v 0 now) tunes then [now] else [] := by
  unfold hitL
  rw [h, Nat.sub_self]
  show [now].filter _ = _
  by_cases hn : Noted (plays v 0 now) tunes
  · rw [List.filter_cons, if_pos (decide_eq_true hn), if_pos hn]; rfl
  · rw [List.filter_cons, if_neg (by simpa using hn), if_neg hn]; rfl
theorem hitL_step {c : Nat} {v : Vers} {tunes now : List Int} (h : now.length < tunes.length) : hitL c v tunes now = hitU c v tunes now c := by
  unfold hitL hitU hitL
  obtain ⟨j, hj⟩ : ∃ j, tunes.length - now.length = j + 1 := ⟨tunes.length - now.length - 1, by omega⟩
  have e : ∀ i : Nat, tunes.length - (now ++ [(i : Int)]).length = j := fun i => by rw [List.length_append, List.length_singleton]; omega
  simp only [e, hj]
  show ((List.range c).flatMap fun i : Nat => enumL c j (now ++ [(i : Int)])).filter _ = _
  generalize List.range c = R
  induction R with
  | nil => rfl
  | cons a R ih => rw [List.flatMap_cons, List.flatMap_cons, List.filter_append, ih]
theorem hitL_nil (c : Nat) (v : Vers) (tunes : List Int) : hitL c v tunes [] = fitL c v tunes tunes.length := by
  rw [fitL_enum, List.take_length]
  rfl
theorem hitL_small {c : Nat} (hc : c ≤ 4) {v : Vers} {tunes now : List Int} (ht : tunes.length ≤ 8) : (hitL c v tunes now).length ≤ 65536 := by
  unfold hitL
  refine Nat.le_trans (List.length_filter_le _ _) ?_
  rw [enum_length]
  exact Nat.le_trans (Nat.pow_le_pow_left hc _) (Nat.le_trans (Nat.pow_le_pow_right (by omega) (show tunes.length - now.length ≤ 8 by omega)) (by decide))
theorem hitU_small {c : Nat} (hc : c ≤ 4) {v : Vers} {tunes now : List Int} (ht : tunes.length ≤ 8) : ∀ {r : Nat}, (hitU c v tunes now r).length ≤ 65536 * r
  | 0 => by rw [hitU_zero]; simp
  | r + 1 => by
    rw [hitU_succ, List.length_append]
    have := hitU_small hc (v := v) (tunes := tunes) (now := now) ht (r := r)
    have := hitL_small hc (v := v) (tunes := tunes) (now := now ++ [(r : Int)]) ht
    omega
end Go.Vm

/-
  Contracts: Count of package cue, by its ranges over functions. (Own work.)
-/
namespace Go.Vm
open Go.Proofs

/-- The first list met. -/
def firstA : List (List Int) → AV
  | [] => .lit (.slice none 0 0)
  | x :: _ => eInts x
theorem under_firstA (n : Nat) (h : List (List Int)) : (firstA h).under n := by
  cases h with
  | nil => exact trivial
  | cons x h => exact under_eInts n x

def srchA : List AV := [.ptr 10 0, .ptr 13 0, .ptr 9 0, .ptr 14 0]

/-- The heap of Count while it goes through the lists: those that fit so far. -/
noncomputable def cntL (b : Book) (i : Int) (tunes : List Int) (h : List (List Int)) : List (Nat × Blk) :=
  [(0, bBox b), (1, .box [n' (h.length : Nat)] 3), (2, .box [firstA h] 25), (3, bBox b), (4, .box [n' i] 3), (5, .box [eInts tunes] 25), (6, .defd), (7, lpB Tryz.f46 .ready [(9, .ptr 1 0), (10, .ptr 2 0), (30, .fn (.func 162) [] [.ptr 3 0, .ptr 5 0, .ptr 4 0])] 6), (8, .box [.yld 7] 187), (9, bBox b), (10, .box [n' (tunes.length : Nat)] 3),
    (11, .defd), (12, lpB Tryz.f162 .ready [(1, .ptr 3 0), (2, .ptr 5 0), (3, .ptr 4 0), (4, .ptr 8 0), (11, .fn (.func 197) [] [.ptr 10 0, .ptr 9 0])] 11), (13, .box [.yld 12] 187), (14, .box [.fn (.func 198) [] srchA] 187)]

theorem cntL_numd (b : Book) (i : Int) (tunes : List Int) (h : List (List Int)) : Numd 0 (cntL b i tunes h) :=
  ⟨rfl, rfl, rfl, rfl, rfl, rfl, rfl, rfl, rfl, rfl, rfl, rfl, rfl, rfl, rfl, trivial⟩

theorem cntL_marks (b : Book) (i : Int) (tunes : List Int) (h h' : List (List Int)) : MarksL (cntL b i tunes h) (cntL b i tunes h') :=
  .cons (fun e => e) (.cons (fun e => by cases e) (.cons (fun e => by cases e) (MarksL.same _)))

def UnderL (n : Nat) : List (Nat × Blk) → Prop
  | [] => True
  | p :: l => p.2.under n ∧ UnderL n l
theorem UnderL.mem {n : Nat} : ∀ {l : List (Nat × Blk)}, UnderL n l → ∀ p ∈ l, p.2.under n
  | [], _, _, h => by cases h
  | q :: l, hs, p, h => by
    rcases List.mem_cons.1 h with rfl | h
    · exact hs.1
    · exact UnderL.mem hs.2 p h

theorem cntL_under (b : Book) (i : Int) (tunes : List Int) (h : List (List Int)) : ∀ q ∈ cntL b i tunes h, q.2.under 15 :=
  UnderL.mem (l := cntL b i tunes h) ⟨bBox_under _ _, ⟨trivial, trivial⟩, ⟨under_firstA _ _, trivial⟩, bBox_under _ _, ⟨trivial, trivial⟩, ⟨under_eInts _ _, trivial⟩, trivial, under_lpB ⟨ltb rfl, ltb rfl, ⟨trivial, ltb rfl, ltb rfl, ltb rfl, trivial⟩, trivial⟩ (ltb rfl), ⟨ltb rfl, trivial⟩, bBox_under _ _, ⟨trivial, trivial⟩,
    trivial, under_lpB ⟨ltb rfl, ltb rfl, ltb rfl, ltb rfl, ⟨trivial, ltb rfl, ltb rfl, trivial⟩, trivial⟩ (ltb rfl), ⟨ltb rfl, trivial⟩, ⟨⟨trivial, ltb rfl, ltb rfl, ltb rfl, ltb rfl, trivial⟩, trivial⟩, trivial⟩


set_option maxHeartbeats 4000000 in
set_option maxRecDepth 100000 in
theorem c_search0 {b : Book} {v : Vers} {i : Int} (hi : 0 ≤ i) (hv : b.vs[i.toNat]? = some v) (hvo : VersOk v b.cues.toNat) (hv0 : 0 < v.length) {tunes : List Int} (ht : LTunes b tunes) {now : List Int} {h : List (List Int)} (hn : now.length = tunes.length) (hc : CuesOk b.cues.toNat now) (hh : h.length ≤ 1000000) :
    ACall Tryz.prog 198 (eInts now :: srchA) (hp (cntL b i tunes h)) (.ret (nb true)) (hp (cntL b i tunes (h ++ hitL b.cues.toNat v tunes now))) := by
  have htl := ht.2
  refine fn_keep (m := false) (fn := Tryz.f198) (c := (Tryz.f198.body).getD .skip) (p := 15) mixed (by kernel_rfl) (by kernel_rfl) (of_decide_eq_true (by kernel_rfl)) rfl (cntL_numd _ _ _ _) (cntL_numd _ _ _ _) rfl rfl (cntL_under _ _ _ _) ?_
  refine If.mk (fun _ => ?_) (fun h => absurd (by omega) h)
  refine IfB.mk (fun _ => ?_) (fun e => by cases e)
  rw [hitL_full hn]
  refine RoundG.intro (m := false) mixed rfl rfl (by decide) ?_
  refine ⟨rfl, _, rfl, rfl, ?_⟩
  refine Ex.mk _ (jx_versions (r := i.toNat) (by omega) hv) ?_
  refine Ex.mk _ rfl ?_
  refine CallG.pure _ (c_played hvo hv0 hc (by omega)) ?_
  refine CallG.bool (c_noted _ _ (by rw [plays_length]; omega) (by omega)) (fun hN => ?_) (fun hN => ?_)
  · rw [if_pos hN]
    refine RoundG.intro (m := false) mixed rfl rfl (by decide) ?_
    refine ⟨rfl, _, rfl, rfl, ?_⟩
    cases h with
    | nil =>
      refine If.mk (fun _ => ?_) (fun h => absurd (by decide) h)
      refine IfB.mk (fun _ => ?_) (fun e => by cases e)
      refine Side.mk (fits64 (by omega)) ?_
      refine ⟨_, _, rfl, rfl, ?_⟩
      refine IfB.mk (fun e => by cases e) (fun _ => ?_)
      refine ⟨_, _, rfl, rfl, ?_⟩
      refine ⟨.inl rfl, ?_, FinF.mk _ rfl rfl rfl⟩
      exact ⟨⟨rfl, ltb rfl⟩, ⟨rfl, ltb rfl⟩, ⟨rfl, ltb rfl⟩, ⟨rfl, ltb rfl⟩, ⟨rfl, ltb rfl⟩, ⟨rfl, ltb rfl⟩, ⟨rfl, ltb rfl⟩, ⟨rfl, ltb rfl⟩, ⟨rfl, ltb rfl⟩, ⟨rfl, ltb rfl⟩, ⟨rfl, ltb rfl⟩, ⟨rfl, ltb rfl⟩, ⟨rfl, ltb rfl⟩, ⟨rfl, ltb rfl⟩, ⟨rfl, ltb rfl⟩, trivial⟩
    | cons x h =>
      refine If.mk (fun h => absurd h (by rw [List.length_cons]; omega)) (fun _ => ?_)
      refine IfB.mk (fun e => by cases e) (fun _ => ?_)
      refine Side.mk (fits64 (by rw [List.length_cons] at hh ⊢; omega)) ?_
      refine ⟨_, _, rfl, rfl, ?_⟩
      refine IfB.mk (fun e => by cases e) (fun _ => ?_)
      refine ⟨_, _, rfl, rfl, ?_⟩
      refine ⟨.inl rfl, ?_, FinF.mk _ rfl rfl rfl⟩
      have e : (((x :: h) ++ [now]).length : Int) = ((x :: h).length : Int) + 1 := by rw [List.length_append]; rfl
      refine ⟨⟨rfl, ltb rfl⟩, ⟨?_, ltb rfl⟩, ⟨rfl, ltb rfl⟩, ⟨rfl, ltb rfl⟩, ⟨rfl, ltb rfl⟩, ⟨rfl, ltb rfl⟩, ⟨rfl, ltb rfl⟩, ⟨rfl, ltb rfl⟩, ⟨rfl, ltb rfl⟩, ⟨rfl, ltb rfl⟩, ⟨rfl, ltb rfl⟩, ⟨rfl, ltb rfl⟩, ⟨rfl, ltb rfl⟩, ⟨rfl, ltb rfl⟩, ⟨rfl, ltb rfl⟩, trivial⟩
      show _ = some (Blk.box [n' (((x :: h) ++ [now]).length : Nat)] 3)
      rw [e]
      rfl
  · rw [if_neg hN, List.append_nil]
    refine IfB.mk (fun e => by cases e) (fun _ => ?_)
    refine ⟨_, _, rfl, rfl, ?_⟩
    refine ⟨.inl rfl, ?_, FinF.mk _ rfl rfl rfl⟩
    exact ⟨⟨rfl, ltb rfl⟩, ⟨rfl, ltb rfl⟩, ⟨rfl, ltb rfl⟩, ⟨rfl, ltb rfl⟩, ⟨rfl, ltb rfl⟩, ⟨rfl, ltb rfl⟩, ⟨rfl, ltb rfl⟩, ⟨rfl, ltb rfl⟩, ⟨rfl, ltb rfl⟩, ⟨rfl, ltb rfl⟩, ⟨rfl, ltb rfl⟩, ⟨rfl, ltb rfl⟩, ⟨rfl, ltb rfl⟩, ⟨rfl, ltb rfl⟩, ⟨rfl, ltb rfl⟩, trivial⟩

theorem hitU_le {c : Nat} {v : Vers} {tunes now : List Int} {r : Nat} : ∀ {q : Nat}, r ≤ q → (hitU c v tunes now r).length ≤ (hitU c v tunes now q).length
  | 0, h => by rw [show r = 0 by omega]; omega
  | q + 1, h => by
    rcases Nat.lt_or_ge q r with h1 | h1
    · rw [show r = q + 1 by omega]; omega
    · have := hitU_le (c := c) (v := v) (tunes := tunes) (now := now) h1
      rw [hitU_succ, List.length_append]; omega

theorem wk_snoc {now : List Int} {r : Nat} {tl : Tail} (H : List Blk) : WeakH H (.sl (now.length + 1) (now.map n' ++ [n' r]) tl) (eInts (now ++ [(r : Int)])) := by
  unfold eInts
  rw [List.length_append, List.map_append]
  exact WeakH.tail _ _ _ H

set_option maxHeartbeats 4000000 in
set_option maxRecDepth 100000 in
theorem c_search {b : Book} {v : Vers} {i : Int} (hb : inI b.cues 1 4) (hi : 0 ≤ i) (hv : b.vs[i.toNat]? = some v) (hvo : VersOk v b.cues.toNat) (hv0 : 0 < v.length) {tunes : List Int} (ht : LTunes b tunes) : ∀ (k : Nat) {now : List Int} {h : List (List Int)} (_ : now.length + k = tunes.length) (_ : CuesOk b.cues.toNat now)
    (_ : h.length + (hitL b.cues.toNat v tunes now).length ≤ 1000000), ACall Tryz.prog 198 (eInts now :: srchA) (hp (cntL b i tunes h)) (.ret (nb true)) (hp (cntL b i tunes (h ++ hitL b.cues.toNat v tunes now)))
  | 0, now, h, hn, hc, hh => c_search0 hi hv hvo hv0 ht (by omega) hc (by omega)
  | k + 1, now, h, hn, hc, hh => by
    have htl := ht.2
    rw [hitL_step (by omega)] at hh ⊢
    unfold inI at hb
    refine fn_keep (m := false) (fn := Tryz.f198) (c := (Tryz.f198.body).getD .skip) (p := 15) mixed (by kernel_rfl) (by kernel_rfl) (of_decide_eq_true (by kernel_rfl)) rfl (cntL_numd _ _ _ _) (cntL_numd _ _ _ _) rfl rfl (cntL_under _ _ _ _) ?_
    refine If.mk (fun h => absurd h (by omega)) (fun _ => ?_)
    refine IfB.mk (fun e => by cases e) (fun _ => ?_)
    refine LoopG.at (n0 := 15) rfl (loop_up mixed (m := false) (fun r => [(0, eInts now), (1, .ptr 10 0), (2, .ptr 13 0), (3, .ptr 9 0), (4, .ptr 14 0), (16, n' b.cues), (17, n' r)]) (fun r => cntL b i tunes (h ++ hitU b.cues.toNat v tunes now r)) (fun _ => True) b.cues.toNat 1 (leb rfl) trivial ?_ ?_ ?_)
    · exact ⟨⟨_, rfl, Weak.refl _ _, under_eInts _ _⟩, ⟨_, rfl, Weak.refl _ _, ltb rfl⟩, ⟨_, rfl, Weak.refl _ _, ltb rfl⟩, ⟨_, rfl, Weak.refl _ _, ltb rfl⟩, ⟨_, rfl, Weak.refl _ _, ltb rfl⟩, ⟨_, rfl, Weak.refl _ _, trivial⟩, ⟨_, rfl, Weak.refl _ _, trivial⟩, trivial⟩
    · show Blks _ _ (cntL b i tunes (h ++ hitU b.cues.toNat v tunes now 0))
      rw [hitU_zero, List.append_nil]
      exact ⟨⟨rfl, ltb rfl⟩, ⟨rfl, ltb rfl⟩, ⟨rfl, ltb rfl⟩, ⟨rfl, ltb rfl⟩, ⟨rfl, ltb rfl⟩, ⟨rfl, ltb rfl⟩, ⟨rfl, ltb rfl⟩, ⟨rfl, ltb rfl⟩, ⟨rfl, ltb rfl⟩, ⟨rfl, ltb rfl⟩, ⟨rfl, ltb rfl⟩, ⟨rfl, ltb rfl⟩, ⟨rfl, ltb rfl⟩, ⟨rfl, ltb rfl⟩, ⟨rfl, ltb rfl⟩, trivial⟩
    · intro r hr _
      refine If.mk (fun h1 => ?_) (fun h1 => ?_)
      · refine IfB.mk (fun _ => ?_) (fun e => by cases e)
        refine CallG.cloneI (by omega) (leb rfl) ?_
        refine ex_app _ _ (app_int (List.length_map _) (by omega) rfl) ?_
        have hs := hitU_succ b.cues.toNat v tunes now r
        have hsl := congrArg List.length hs
        rw [List.length_append] at hsl
        have hle := hitU_le (c := b.cues.toNat) (v := v) (tunes := tunes) (now := now) (show r + 1 ≤ b.cues.toNat by omega)
        refine CallG.pre (eInts (now ++ [(r : Int)]) :: srchA) (cntL b i tunes (h ++ hitU b.cues.toNat v tunes now r)) (cntL b i tunes (h ++ hitU b.cues.toNat v tunes now (r + 1))) (nb true) 1 (.cons (fun H => wk_snoc H) (.cons (fun H => WeakH.refl _ H) (.cons (fun H => WeakH.refl _ H) (.cons (fun H => WeakH.refl _ H) (.cons (fun H => WeakH.refl _ H) .nil)))))
          (cntL_numd _ _ _ _) (cntL_numd _ _ _ _) rfl (cntL_marks _ _ _ _ _) ?_ rfl ⟨under_eInts _ _, ltb rfl, ltb rfl, ltb rfl, ltb rfl, trivial⟩ rfl (cntL_under _ _ _ _) (cntL_under _ _ _ _) ?_ ?_
        · exact ⟨⟨rfl, ltb rfl⟩, ⟨rfl, ltb rfl⟩, ⟨rfl, ltb rfl⟩, ⟨rfl, ltb rfl⟩, ⟨rfl, ltb rfl⟩, ⟨rfl, ltb rfl⟩, ⟨rfl, ltb rfl⟩, ⟨rfl, ltb rfl⟩, ⟨rfl, ltb rfl⟩, ⟨rfl, ltb rfl⟩, ⟨rfl, ltb rfl⟩, ⟨rfl, ltb rfl⟩, ⟨rfl, ltb rfl⟩, ⟨rfl, ltb rfl⟩, ⟨rfl, ltb rfl⟩, trivial⟩
        · rw [hs, ← List.append_assoc]
          refine c_search hb hi hv hvo hv0 ht k (by rw [List.length_append, List.length_singleton]; omega) (fun x hx => ?_) (by rw [List.length_append]; omega)
          rcases List.mem_append.1 hx with hx | hx
          · exact hc x hx
          · rw [List.mem_singleton] at hx; omega
        · refine IfB.mk (fun e => by cases e) (fun _ => ?_)
          refine Side.mk (fits64 (by omega)) ?_
          refine ⟨leb rfl, rfl, by omega, trivial, ⟨⟨_, rfl, Weak.refl _ _, under_eInts _ _⟩, ⟨_, rfl, Weak.refl _ _, ltb rfl⟩, ⟨_, rfl, Weak.refl _ _, ltb rfl⟩, ⟨_, rfl, Weak.refl _ _, ltb rfl⟩, ⟨_, rfl, Weak.refl _ _, ltb rfl⟩, ⟨_, rfl, Weak.refl _ _, trivial⟩, ⟨_, rfl, Weak.refl _ _, trivial⟩, trivial⟩, ?_, ?_⟩
          · exact ⟨⟨rfl, ltb rfl⟩, ⟨rfl, ltb rfl⟩, ⟨rfl, ltb rfl⟩, ⟨rfl, ltb rfl⟩, ⟨rfl, ltb rfl⟩, ⟨rfl, ltb rfl⟩, ⟨rfl, ltb rfl⟩, ⟨rfl, ltb rfl⟩, ⟨rfl, ltb rfl⟩, ⟨rfl, ltb rfl⟩, ⟨rfl, ltb rfl⟩, ⟨rfl, ltb rfl⟩, ⟨rfl, ltb rfl⟩, ⟨rfl, ltb rfl⟩, ⟨rfl, ltb rfl⟩, trivial⟩
          · exact ⟨⟨_, rfl, trivial, trivial⟩, ⟨_, rfl, under_firstA _ _, trivial⟩, ⟨_, rfl, bBox_under _ _⟩, ⟨_, rfl, trivial, trivial⟩, ⟨_, rfl, under_eInts _ _, trivial⟩, ⟨_, rfl, trivial⟩, ⟨_, rfl, under_lpB ⟨ltb rfl, ltb rfl, ⟨trivial, ltb rfl, ltb rfl, ltb rfl, trivial⟩, trivial⟩ (ltb rfl)⟩, ⟨_, rfl, ltb rfl, trivial⟩, ⟨_, rfl, bBox_under _ _⟩, ⟨_, rfl, trivial, trivial⟩, ⟨_, rfl, trivial⟩,
              ⟨_, rfl, under_lpB ⟨ltb rfl, ltb rfl, ltb rfl, ltb rfl, ⟨trivial, ltb rfl, ltb rfl, trivial⟩, trivial⟩ (ltb rfl)⟩, ⟨_, rfl, ltb rfl, trivial⟩, ⟨_, rfl, ⟨trivial, ltb rfl, ltb rfl, ltb rfl, ltb rfl, trivial⟩, trivial⟩, trivial⟩
      · refine IfB.mk (fun e => by cases e) (fun _ => ?_)
        have er : r = b.cues.toNat := by omega
        subst er
        refine ⟨leb rfl, ?_⟩
        refine ⟨.inl rfl, ?_, FinF.mk _ rfl rfl rfl⟩
        exact ⟨⟨rfl, ltb rfl⟩, ⟨rfl, ltb rfl⟩, ⟨rfl, ltb rfl⟩, ⟨rfl, ltb rfl⟩, ⟨rfl, ltb rfl⟩, ⟨rfl, ltb rfl⟩, ⟨rfl, ltb rfl⟩, ⟨rfl, ltb rfl⟩, ⟨rfl, ltb rfl⟩, ⟨rfl, ltb rfl⟩, ⟨rfl, ltb rfl⟩, ⟨rfl, ltb rfl⟩, ⟨rfl, ltb rfl⟩, ⟨rfl, ltb rfl⟩, ⟨rfl, ltb rfl⟩, trivial⟩

/-- What Count returns for what fits. -/
def countE : List (List Int) → AV
  | [] => .tup [n' 0, .lit (.slice none 0 0), .lit (.int .i64 5)]
  | x :: L => .tup [n' ((x :: L).length : Nat), eInts x, .lit (.int .i64 0)]
theorem under_countE (n : Nat) (L : List (List Int)) : (countE L).under n := by
  cases L with
  | nil => exact ⟨trivial, trivial, trivial, trivial⟩
  | cons x L => exact ⟨trivial, under_eInts _ _, trivial, trivial⟩

set_option maxHeartbeats 8000000 in
set_option maxRecDepth 100000 in
theorem c_count {b : Book} (hl : BLen b) (hB : BOk b) {i : Int} {v : Vers} (hi : 0 ≤ i) (hv : b.vs[i.toNat]? = some v) {tunes : List Int} (ht : LTunes b tunes) (H : List Blk) :
    ACall Tryz.prog 46 [eBook b, n' i, eInts tunes] H (.ret (countE (hitL b.cues.toNat v tunes []))) H := by
  have hlt := (List.getElem?_eq_some_iff.1 hv).1
  have htl := ht.2
  have hvn := hB.1.2.2
  unfold inI at hvn
  obtain ⟨hvo, hv0⟩ := (hB.2 v (List.mem_of_getElem? hv)).vers
  have hsm := hitL_small (c := b.cues.toNat) (by have := hB.1.1; unfold inI at this; omega) (v := v) (tunes := tunes) (now := []) (by omega)
  refine fn_ruleM (m := false) (fn := Tryz.f46) (c := (Tryz.f46.body).getD .skip) mixed (by kernel_rfl) (by kernel_rfl) (of_decide_eq_true (by kernel_rfl)) ?_ ?_ ?_ H
  · exact ⟨under_eBook 0 _, trivial, under_eInts 0 _, trivial⟩
  · exact under_countE 0 _
  · refine CallG.bool (c_isBook hl) (fun _ => ?_) (fun x => absurd hB x)
    refine CallG.bool (c_hasVersion hB.fit i) (fun _ => ?_) (fun x => absurd (by unfold inI; omega) x)
    refine CallG.bool (c_areHeard hB.fit _ (by omega)) (fun _ => ?_) (fun x => absurd ht x)
    refine IfB.mk (fun e => by cases e) (fun _ => ?_)
    refine CallG.inlineP (m := false) (fn := Tryz.f101) (c := (Tryz.f101.body).getD .skip) mixed (by kernel_rfl) (by kernel_rfl) (of_decide_eq_true (by kernel_rfl)) ?_
    refine .inl ⟨.inl rfl, _, rfl, rfl, ?_⟩
    refine RangeG.fresh (n0 := 6) [(9, .ptr 1 0), (10, .ptr 2 0), (30, .fn (.func 162) [] [.ptr 3 0, .ptr 5 0, .ptr 4 0])] [(0, bBox b), (1, .box [n' 0] 3), (2, .box [.lit (.slice none 0 0)] 25), (3, bBox b), (4, .box [n' i] 3), (5, .box [eInts tunes] 25)] rfl ?_ ?_ ?_
    · exact ⟨⟨_, rfl, Weak.refl _ _⟩, ⟨_, rfl, Weak.refl _ _⟩, ⟨_, rfl, Weak.refl _ _⟩, trivial⟩
    · exact ⟨⟨rfl, ltb rfl⟩, ⟨rfl, ltb rfl⟩, ⟨rfl, ltb rfl⟩, ⟨rfl, ltb rfl⟩, ⟨rfl, ltb rfl⟩, ⟨rfl, ltb rfl⟩, trivial⟩
    refine RangeG.after ?_
    refine RangeG.outer (f := 162) (first := []) (captured := [.ptr 3 0, .ptr 5 0, .ptr 4 0]) rfl rfl rfl ?_
    refine CallG.inlineM (m := false) (fn := Tryz.f162) (c := (Tryz.f162.body).getD .skip) mixed (by kernel_rfl) (by kernel_rfl) (of_decide_eq_true (by kernel_rfl)) ?_
    refine CallG.inlineP (m := false) (fn := Tryz.f163) (c := (Tryz.f163.body).getD .skip) mixed (by kernel_rfl) (by kernel_rfl) (of_decide_eq_true (by kernel_rfl)) ?_
    refine .inl ⟨.inl rfl, _, rfl, rfl, ?_⟩
    refine RangeG.fresh (n0 := 11) [(1, .ptr 3 0), (2, .ptr 5 0), (3, .ptr 4 0), (4, .ptr 8 0), (11, .fn (.func 197) [] [.ptr 10 0, .ptr 9 0])] ((cntL b i tunes []).take 11) rfl ?_ ?_ ?_
    · exact ⟨⟨_, rfl, Weak.refl _ _⟩, ⟨_, rfl, Weak.refl _ _⟩, ⟨_, rfl, Weak.refl _ _⟩, ⟨_, rfl, Weak.refl _ _⟩, ⟨_, rfl, Weak.refl _ _⟩, trivial⟩
    · exact ⟨⟨rfl, ltb rfl⟩, ⟨rfl, ltb rfl⟩, ⟨rfl, ltb rfl⟩, ⟨rfl, ltb rfl⟩, ⟨rfl, ltb rfl⟩, ⟨rfl, ltb rfl⟩, ⟨rfl, ltb rfl⟩, ⟨rfl, ltb rfl⟩, ⟨rfl, ltb rfl⟩, ⟨rfl, ltb rfl⟩, ⟨rfl, ltb rfl⟩, trivial⟩
    refine RangeG.outer (f := 197) (first := []) (captured := [.ptr 10 0, .ptr 9 0]) rfl rfl rfl ?_
    refine CallG.inlineP (m := false) (fn := Tryz.f197) (c := (Tryz.f197.body).getD .skip) mixed (by kernel_rfl) (by kernel_rfl) (of_decide_eq_true (by kernel_rfl)) ?_
    generalize hL : hitL b.cues.toNat v tunes [] = L at hsm ⊢
    refine CallG.pre (eInts [] :: srchA) (cntL b i tunes []) (cntL b i tunes L) (nb true) 1 (.cons (fun H => wk_nil H) (.cons (fun H => WeakH.refl _ H) (.cons (fun H => WeakH.refl _ H) (.cons (fun H => WeakH.refl _ H) (.cons (fun H => WeakH.refl _ H) .nil)))))
      (cntL_numd _ _ _ _) (cntL_numd _ _ _ _) rfl (cntL_marks _ _ _ _ _) ?_ rfl ⟨under_eInts _ _, ltb rfl, ltb rfl, ltb rfl, ltb rfl, trivial⟩ rfl (cntL_under _ _ _ _) (cntL_under _ _ _ _) ?_ ?_
    · exact ⟨⟨rfl, ltb rfl⟩, ⟨rfl, ltb rfl⟩, ⟨rfl, ltb rfl⟩, ⟨rfl, ltb rfl⟩, ⟨rfl, ltb rfl⟩, ⟨rfl, ltb rfl⟩, ⟨rfl, ltb rfl⟩, ⟨rfl, ltb rfl⟩, ⟨rfl, ltb rfl⟩, ⟨rfl, ltb rfl⟩, ⟨rfl, ltb rfl⟩, ⟨rfl, ltb rfl⟩, ⟨rfl, ltb rfl⟩, ⟨rfl, ltb rfl⟩, ⟨rfl, ltb rfl⟩, trivial⟩
    · have := c_search hB.1.1 hi hv hvo hv0 ht tunes.length (now := []) (h := []) (by simp) (fun x h => by cases h) (by rw [hL]; simp; omega)
      rw [hL, List.nil_append] at this
      exact this
    · refine .inl ⟨.inr rfl, _, rfl, rfl, ?_⟩
      refine ⟨_, _, rfl, (fun e => by cases e), rfl, ?_⟩
      refine ⟨.inr rfl, rfl, _, rfl, ?_⟩
      refine ⟨_, _, rfl, (fun e => by cases e), rfl, rfl, [(9, .ptr 1 0), (10, .ptr 2 0)], [(1, .box [n' (L.length : Nat)] 3), (2, .box [firstA L] 25)], 15, rfl, ⟨⟨_, rfl, Weak.refl _ _⟩, ⟨_, rfl, Weak.refl _ _⟩, trivial⟩, ⟨⟨rfl, ltb rfl⟩, ⟨rfl, ltb rfl⟩, trivial⟩, ?_⟩
      cases L with
      | nil =>
        refine If.mk (fun _ => ?_) (fun h => absurd (by decide) h)
        refine IfB.mk (fun _ => ?_) (fun e => by cases e)
        exact ⟨.inl rfl, FinM.mk _ rfl rfl rfl⟩
      | cons x L =>
        refine If.mk (fun h => absurd h (by rw [List.length_cons]; omega)) (fun _ => ?_)
        refine IfB.mk (fun e => by cases e) (fun _ => ?_)
        refine ⟨.inl rfl, FinM.mk _ rfl rfl ?_⟩
        show AV.tup [_, AV.freeze _ (eInts x), _] = _
        rw [freeze_eInts]
        rfl

set_option maxRecDepth 100000 in
theorem c_count_no {b : Book} (hl : BLen b) (i : Int) (tunes : List Int) (htl : tunes.length < 4611686018427387904) (hP : ¬ (BOk b ∧ inI i 0 (b.vs.length - 1) ∧ LTunes b tunes)) (H : List Blk) :
    ACall Tryz.prog 46 [eBook b, n' i, eInts tunes] H (.ret (.tup [n' 0, .lit (.slice none 0 0), .lit (.int .i64 2)])) H := by
  refine fn_rule (m := false) (fn := Tryz.f46) (c := (Tryz.f46.body).getD .skip) mixed (by kernel_rfl) (by kernel_rfl) (of_decide_eq_true (by kernel_rfl)) ?_ ?_ ?_ H
  · exact ⟨under_eBook 0 _, trivial, under_eInts 0 _, trivial⟩
  · exact ⟨trivial, trivial, trivial, trivial⟩
  · refine CallG.bool (c_isBook hl) (fun hB => ?_) (fun _ => ?_)
    · refine CallG.bool (c_hasVersion hB.fit i) (fun h2 => ?_) (fun _ => ?_)
      · refine CallG.bool (c_areHeard hB.fit _ htl) (fun h3 => absurd ⟨hB, h2, h3⟩ hP) (fun _ => ?_)
        refine IfB.mk (fun _ => ?_) (fun e => by cases e)
        exact ⟨.inl rfl, FinG.mk _ rfl rfl rfl⟩
      · refine IfB.mk (fun _ => ?_) (fun e => by cases e)
        exact ⟨.inl rfl, FinG.mk _ rfl rfl rfl⟩
    · refine IfB.mk (fun _ => ?_) (fun e => by cases e)
      exact ⟨.inl rfl, FinG.mk _ rfl rfl rfl⟩
end Go.Vm
