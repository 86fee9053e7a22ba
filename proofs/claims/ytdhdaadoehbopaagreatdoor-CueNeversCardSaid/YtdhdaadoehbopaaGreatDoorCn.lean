/-
  Contracts of functions of packages kelirlaw04, kelirref04, kelirref02, cue and slices, for books, evenings and lists as told at each, in every heap. Conditions: at each theorem. (Never; lists of cues; Danger, Fence and Bad of the specification.)
-/
import Derived.Test.YtdhdaadoehbopaaGreatDoorCm
import Derived.Test.YtdhdaadoehbopaaGreatDoorCa
import Derived.Test.YtdhdaadoehbopaaGreatDoorCb
import Derived.Test.YtdhdaadoehbopaaGreatDoorCj
import Derived.Test.YtdhdaadoehbopaaGreatDoorVc

/-
  Contracts: lists of package kelirref04. (Own work.)
-/
namespace Go.Vm
open Go.Proofs

/-- Increasing lists, without a bound that is told ahead. -/
def lstT (K : Nat) : Nat → Nat → List (List Int)
  | 0, _ => [[]]
  | m + 1, s => (List.range (K - s)).flatMap fun r : Nat => (lstT K m (s + r + 1)).map fun l => ((s + r : Nat) : Int) :: l
def preT (K m s r : Nat) : List (List Int) := (List.range r).flatMap fun r : Nat => (lstT K m (s + r + 1)).map fun l => ((s + r : Nat) : Int) :: l

theorem preT_succ (K m s r : Nat) : preT K m s (r + 1) = preT K m s r ++ (lstT K m (s + r + 1)).map fun l => ((s + r : Nat) : Int) :: l := by
  unfold preT
  rw [List.range_succ, List.flatMap_append, List.flatMap_cons, List.flatMap_nil, List.append_nil]

theorem subT_nil {K m s : Nat} (h : K < s + m + 1) : subT K (m + 1) s = [] := by
  show (List.range (K - m - s)).flatMap _ = _
  rw [show K - m - s = 0 by omega]
  rfl

theorem lstT_eq (K : Nat) : ∀ (m s : Nat), lstT K m s = subT K m s
  | 0, _ => rfl
  | m + 1, s => by
    show (List.range (K - s)).flatMap (fun r : Nat => (lstT K m (s + r + 1)).map fun l => ((s + r : Nat) : Int) :: l) = (List.range (K - m - s)).flatMap fun r : Nat => (subT K m (s + r + 1)).map fun l => ((s + r : Nat) : Int) :: l
    have e : (fun r : Nat => (lstT K m (s + r + 1)).map fun l => ((s + r : Nat) : Int) :: l) = fun r : Nat => (subT K m (s + r + 1)).map fun l => ((s + r : Nat) : Int) :: l := funext fun r => by rw [lstT_eq K m]
    rw [e]
    obtain ⟨d, hd⟩ : ∃ d, K - s = (K - m - s) + d := ⟨K - s - (K - m - s), by omega⟩
    rw [hd, List.range_add, List.flatMap_append]
    have : ∀ x ∈ (List.range d).map (fun x => K - m - s + x), ((subT K m (s + x + 1)).map fun l => ((s + x : Nat) : Int) :: l) = [] := fun x hx => by
      obtain ⟨y, hy, rfl⟩ := List.mem_map.1 hx
      have hy := List.mem_range.1 hy
      cases m with
      | zero => omega
      | succ m => rw [subT_nil (by omega)]; rfl
    rw [List.flatMap_eq_nil_iff.2 this, List.append_nil]

theorem flat_le {α β : Type} {f : α → List β} {B : Nat} : ∀ {R : List α}, (∀ x ∈ R, (f x).length ≤ B) → (R.flatMap f).length ≤ R.length * B
  | [], _ => by simp
  | x :: R, h => by
    have ih := flat_le (f := f) (B := B) (R := R) fun y hy => h y (by simp [hy])
    have := h x (by simp)
    rw [List.flatMap_cons, List.length_append, List.length_cons, Nat.succ_mul]
    omega

theorem lstT_length {K : Nat} (hk : K ≤ 4) : ∀ (m s : Nat), (lstT K m s).length ≤ 4 ^ m
  | 0, _ => Nat.le_refl _
  | m + 1, s => by
    refine Nat.le_trans (flat_le (B := 4 ^ m) fun r _ => by rw [List.length_map]; exact lstT_length hk m _) ?_
    rw [List.length_range, Nat.pow_succ, Nat.mul_comm]
    exact Nat.mul_le_mul_left _ (by omega)
theorem preT_length {K : Nat} (hk : K ≤ 4) (m s : Nat) {r : Nat} (hr : r ≤ 4) : (preT K m s r).length ≤ 4 ^ (m + 1) := by
  refine Nat.le_trans (flat_le (B := 4 ^ m) fun r _ => by rw [List.length_map]; exact lstT_length hk m _) ?_
  rw [List.length_range, Nat.pow_succ, Nat.mul_comm]
  exact Nat.mul_le_mul_left _ hr
theorem lstT_inner {K : Nat} : ∀ {m s : Nat} {x : List Int}, x ∈ lstT K m s → x.length = m
  | 0, _, x, h => by
    have h : x ∈ [[]] := h
    rw [List.mem_singleton] at h
    subst h; rfl
  | m + 1, s, x, h => by
    obtain ⟨r, _, hx⟩ := List.mem_flatMap.1 h
    obtain ⟨l, hl, rfl⟩ := List.mem_map.1 hx
    rw [List.length_cons, lstT_inner hl]

theorem wk_lists1 (H : List Blk) : WeakH H (.sl 1 [.lit (.slice none 0 0)] .full) (eLists [[]]) := by
  have h1 : WeakH H (.sl 1 [.lit (.slice none 0 0)] .full) (.sl 1 [eInts []] .full) := wk_sl (.cons (fun H => wk_nil H) .nil)
  exact fun O ι w c h => WeakH.tail _ _ _ H O ι w c (h1 O ι w c h)

theorem row_one {M : List (List Int)} {x : List Int} : some (Blk.row (M.length + 1)) = some (Blk.row (M ++ [x]).length) := by
  rw [List.length_append]
  rfl
/-- What is told of a row when a list is behind it. -/
theorem wk_rowS {t : Trie Blk} {M : List (List Int)} {x : List Int} {y : AV} {id : Nat} (h : ∀ H, WeakH H y (eInts x)) :
    Weak t (.sl (M.length + 1) (M.map eInts ++ [y]) (.own id (M.length + 1) 1)) (rowL (M ++ [x]) id) := fun _ H _ => by
  unfold rowL
  rw [List.length_append, List.map_append]
  exact wk_sl (Weaks.snoc h _)

theorem wk_consH {a : Int} {l : List Int} {tl : Tail} (H : List Blk) : WeakH H (.sl (1 + l.length) ([n' a] ++ l.map n') tl) (eInts (a :: l)) := by
  have e : eInts (a :: l) = .sl (1 + l.length) ([n' a] ++ l.map n') .unk := by
    unfold eInts
    rw [List.length_cons, Nat.add_comm, List.map_cons]; rfl
  rw [e]
  exact WeakH.tail _ _ _ H

set_option maxRecDepth 100000 in
theorem c_lists0 (b : Book) (s : Int) (H : List Blk) : ACall Tryz.prog 138 [eBook b, n' s, n' 0] H (.ret (.sl 1 [.lit (.slice none 0 0)] .full)) H := by
  refine fn_rule (m := false) (fn := Tryz.f138) (c := (Tryz.f138.body).getD .skip) mixed (by kernel_rfl) (by kernel_rfl) (of_decide_eq_true (by kernel_rfl)) ?_ ?_ ?_ H
  · exact ⟨under_eBook 0 _, trivial, trivial, trivial⟩
  · exact ⟨⟨trivial, trivial⟩, trivial⟩
  · refine If.mk (fun _ => ?_) (fun h => absurd (by decide) h)
    refine IfB.mk (fun _ => ?_) (fun e => by cases e)
    exact ⟨.inl rfl, FinG.mk _ rfl rfl rfl⟩

set_option maxHeartbeats 4000000 in
set_option maxRecDepth 100000 in
theorem c_lists {b : Book} (hbc : inI b.cues 1 4) : ∀ (m s : Nat) (mi si : Int), mi = m → si = s → m ≤ 4 → s ≤ 1000 → ∀ H, ACall Tryz.prog 138 [eBook b, n' si, n' mi] H (.ret (eLists (lstT b.cues.toNat m s))) H
  | 0, s, mi, si, h1, h2, _, _, H => by
    subst h1 h2
    exact (c_lists0 b s H).weakRet' wk_lists1
  | m + 1, s, mi, si, h1, h2, hm, hs, H => by
    subst h2
    refine fn_rule (m := false) (fn := Tryz.f138) (c := (Tryz.f138.body).getD .skip) mixed (by kernel_rfl) (by kernel_rfl) (of_decide_eq_true (by kernel_rfl)) ?_ ?_ ?_ H
    · exact ⟨under_eBook 0 _, trivial, trivial, trivial⟩
    · exact under_eLists 0 _
    · unfold inI at hbc
      refine If.mk (fun h => absurd h (by omega)) (fun _ => ?_)
      refine IfB.mk (fun e => by cases e) (fun _ => ?_)
      refine LoopG.ghost (LoopG.at (n0 := 2) rfl ?_)
      refine loop_up mixed (m := false) (fun r => [(2, n' mi), (3, .ptr 0 0), (7, rowL (preT b.cues.toNat m s r) 1), (8, n' (s + r : Nat))]) (fun r => [(0, bBox b), (1, .row (preT b.cues.toNat m s r).length)]) (fun _ => True) (b.cues.toNat - s) 1 (leb rfl) trivial ?_ ?_ ?_
      · exact ⟨⟨_, rfl, Weak.refl _ _, trivial⟩, ⟨_, rfl, Weak.refl _ _, ltb rfl⟩, ⟨_, rfl, Weak.own (r := 1) (g := 0) 1 rfl, ⟨trivial, ltb rfl⟩⟩, ⟨_, rfl, Weak.refl _ _, trivial⟩, trivial⟩
      · exact ⟨⟨rfl, ltb rfl⟩, ⟨rfl, ltb rfl⟩, trivial⟩
      · intro r hr _
        have hpl := preT_length (K := b.cues.toNat) (by omega) m s (r := r) (by omega)
        have hp4 := pow4 (r := m + 1) (by omega)
        refine If.mk (fun h3 => ?_) (fun h3 => ?_)
        · refine IfB.mk (fun _ => ?_) (fun e => by cases e)
          refine Side.mk (fits64 (by omega)) ?_
          refine Side.mk (fits64 (by omega)) ?_
          refine CallG.pure _ (c_lists hbc m (s + r + 1) _ _ (by omega) (by omega) (by omega) (by omega)) ?_
          have hXl := lstT_length (K := b.cues.toNat) (by omega) m (s + r + 1)
          have hX4 := pow4 (r := m) (by omega)
          have hXi : ∀ x ∈ lstT b.cues.toNat m (s + r + 1), x.length = m := fun x hx => lstT_inner hx
          have hsucc := preT_succ b.cues.toNat m s r
          generalize lstT b.cues.toNat m (s + r + 1) = X at *
          refine LoopG.at (n0 := 2) rfl (loop_up mixed (m := false) (fun q => [(2, n' mi), (3, .ptr 0 0), (7, rowL (preT b.cues.toNat m s r ++ (X.take q).map fun l => ((s + r : Nat) : Int) :: l) 1), (8, n' (s + r : Nat)), (9, eLists X), (10, n' q)]) (fun q => [(0, bBox b), (1, .row (preT b.cues.toNat m s r ++ (X.take q).map fun l => ((s + r : Nat) : Int) :: l).length)]) (fun _ => True) X.length 1 (leb rfl) trivial ?_ ?_ ?_)
          · refine ⟨⟨_, rfl, Weak.refl _ _, trivial⟩, ⟨_, rfl, Weak.refl _ _, ltb rfl⟩, ⟨_, rfl, Weak.of_eq (?_), under_rowL _ (ltb rfl) _⟩, ⟨_, rfl, Weak.refl _ _, trivial⟩, ⟨_, rfl, Weak.refl _ _, under_eLists _ _⟩, ⟨_, rfl, Weak.refl _ _, trivial⟩, trivial⟩
            show _ = rowL (preT b.cues.toNat m s r ++ []) 1
            rw [List.append_nil]
          · refine ⟨⟨rfl, ltb rfl⟩, ⟨?_, ltb rfl⟩, trivial⟩
            show _ = some (Blk.row (preT b.cues.toNat m s r ++ []).length)
            rw [List.append_nil]
            rfl
          · intro q hq _
            refine If.mk (fun h4 => ?_) (fun h4 => ?_)
            · refine IfB.mk (fun _ => ?_) (fun e => by cases e)
              obtain ⟨x, hx, htk, hxm⟩ := at_some (l := X) (r := q) (by omega)
              have hxl := hXi x hxm
              have eN : preT b.cues.toNat m s r ++ (X.take (q + 1)).map (fun l => ((s + r : Nat) : Int) :: l) = (preT b.cues.toNat m s r ++ (X.take q).map fun l => ((s + r : Nat) : Int) :: l) ++ [((s + r : Nat) : Int) :: x] := by
                rw [htk, List.map_append, List.append_assoc]
                rfl
              have hMl : (preT b.cues.toNat m s r ++ (X.take q).map fun l => ((s + r : Nat) : Int) :: l).length ≤ 4096 := by
                rw [List.length_append, List.length_map, List.length_take]; omega
              refine Ex.mk _ (jx_lists (r := q) rfl hx) ?_
              refine Ex.mk _ rfl ?_
              by_cases hx0 : x = []
              · subst hx0
                refine Ex.mk _ rfl ?_
                refine ex_app _ _ (app_list (List.length_map _) (by omega) rfl rfl) ?_
                refine Side.mk (fits64 (by omega)) ?_
                refine ⟨leb rfl, rfl, by omega, trivial, ⟨⟨_, rfl, Weak.refl _ _, trivial⟩, ⟨_, rfl, Weak.refl _ _, ltb rfl⟩, ⟨_, rfl, ?_, under_rowL _ (ltb rfl) _⟩, ⟨_, rfl, Weak.refl _ _, trivial⟩, ⟨_, rfl, Weak.refl _ _, under_eLists _ _⟩, ⟨_, rfl, Weak.refl _ _, trivial⟩, trivial⟩, ⟨⟨rfl, ltb rfl⟩, ⟨?_, ltb rfl⟩, trivial⟩, ⟨_, rfl, trivial⟩, trivial⟩
                · rw [eN]
                  exact wk_rowS (fun H => WeakH.tail 1 [n' ((s + r : Nat) : Int)] _ H)
                · rw [eN]
                  exact row_one
              · refine ex_app _ _ (app_cons hx0 (by omega)) ?_
                refine ex_app _ _ (app_list (List.length_map _) (by omega) rfl rfl) ?_
                refine Side.mk (fits64 (by omega)) ?_
                refine ⟨leb rfl, rfl, by omega, trivial, ⟨⟨_, rfl, Weak.refl _ _, trivial⟩, ⟨_, rfl, Weak.refl _ _, ltb rfl⟩, ⟨_, rfl, ?_, under_rowL _ (ltb rfl) _⟩, ⟨_, rfl, Weak.refl _ _, trivial⟩, ⟨_, rfl, Weak.refl _ _, under_eLists _ _⟩, ⟨_, rfl, Weak.refl _ _, trivial⟩, trivial⟩, ⟨⟨rfl, ltb rfl⟩, ⟨?_, ltb rfl⟩, trivial⟩, ⟨_, rfl, trivial⟩, trivial⟩
                · rw [eN]
                  exact wk_rowS (fun H => wk_consH H)
                · rw [eN]
                  exact row_one
            · refine IfB.mk (fun e => by cases e) (fun _ => ?_)
              have eq : q = X.length := by omega
              subst eq
              refine ⟨leb rfl, ?_⟩
              refine Side.mk (fits64 (by omega)) ?_
              refine ⟨leb rfl, rfl, by omega, trivial, ⟨⟨_, rfl, Weak.refl _ _, trivial⟩, ⟨_, rfl, Weak.refl _ _, ltb rfl⟩, ⟨_, rfl, Weak.of_eq (?_), under_rowL _ (ltb rfl) _⟩, ⟨_, rfl, Weak.refl _ _, trivial⟩, trivial⟩, ⟨⟨rfl, ltb rfl⟩, ⟨?_, ltb rfl⟩, trivial⟩, ⟨_, rfl, trivial⟩, trivial⟩
              · rw [hsucc, List.take_length]
              · rw [hsucc, List.take_length]
                rfl
        · refine IfB.mk (fun e => by cases e) (fun _ => ?_)
          have er : r = b.cues.toNat - s := by omega
          subst er
          refine ⟨leb rfl, .inl rfl, FinG.mk _ rfl rfl ?_⟩
          show AV.sl _ (AV.freezes _ ((preT b.cues.toNat m s (b.cues.toNat - s)).map eInts)) .unk = _
          rw [freezes_map (fun _ => freeze_eInts _ _)]
          rfl
end Go.Vm

/-
  Contracts: Danger of package kelirref04, wholly. (Own work.)
-/
namespace Go.Vm
open Go.Proofs

theorem lbefore_pre {x y : List Int} (h : LBefore x y) : ∀ a : List Int, LBefore (a ++ x) (a ++ y)
  | [] => h
  | c :: a => (.inr ⟨rfl, lbefore_pre h a⟩ : c < c ∨ c = c ∧ LBefore (a ++ x) (a ++ y))
theorem lbefore_app : ∀ {a b x y : List Int}, a.length = b.length → LBefore a b → LBefore (a ++ x) (b ++ y)
  | c :: a, d :: b, x, y, hl, h => by
    have h : c < d ∨ c = d ∧ LBefore a b := h
    show c < d ∨ c = d ∧ LBefore (a ++ x) (b ++ y)
    rcases h with h | ⟨h, h2⟩
    · exact .inl h
    · exact .inr ⟨h, lbefore_app (by simpa using hl) h2⟩
  | [], [], _, _, _, h => h.elim
  | [], _ :: _, _, _, hl, _ => by simp at hl
  | _ :: _, [], _, _, _, h => h.elim

theorem longer_sorted {k n : Nat} {L : List (List Int)} (hl : ∀ l ∈ L, l.length = n) (h : L.Pairwise LBefore) : (longerL k L).Pairwise LBefore := by
  unfold longerL
  rw [List.pairwise_flatMap]
  refine ⟨fun l _ => ?_, h.imp_of_mem fun {a b} ha hb hab x hx y hy => ?_⟩
  · unfold ext
    rw [List.pairwise_map]
    refine (List.pairwise_lt_range (n := k)).imp fun {i j} hij => ?_
    exact lbefore_pre (x := [(i : Int)]) (y := [(j : Int)]) (.inl (Int.ofNat_lt.2 hij)) l
  · unfold ext at hx hy
    obtain ⟨i, _, rfl⟩ := List.mem_map.1 hx
    obtain ⟨j, _, rfl⟩ := List.mem_map.1 hy
    exact lbefore_app (by rw [hl a ha, hl b hb]) hab

theorem avL_sorted (k : Nat) (but : List Int) : ∀ r, (avL k but r).Pairwise LBefore
  | 0 => List.pairwise_singleton _ _
  | r + 1 => by
    show ((longerL k (avL k but r)).filter _).Pairwise _
    refine (longer_sorted (n := r) (fun l hl => ?_) (avL_sorted k but r)).sublist List.filter_sublist
    obtain ⟨y, rfl, _, _, h⟩ := avL_mem.1 hl
    rw [cuesI_length, h]

theorem sorted_at {X : List (List Int)} (h : X.Pairwise LBefore) {q : Nat} {x y : List Int} (hx : X[q]? = some x) (hy : y ∈ X) (hn : y ∉ X.take q) : y = x ∨ LBefore x y := by
  obtain ⟨hq, hx'⟩ := List.getElem?_eq_some_iff.1 hx
  have e : X = X.take q ++ x :: X.drop (q + 1) := by
    rw [← hx', ← List.drop_eq_getElem_cons hq, List.take_append_drop]
  rw [e] at h hy
  rcases List.mem_append.1 hy with hy | hy
  · exact absurd hy hn
  · rcases List.mem_cons.1 hy with hy | hy
    · exact .inl hy
    · exact .inr ((List.pairwise_cons.1 (List.pairwise_append.1 h).2.1).1 y hy)

/-- What ref.Danger finds: the first list. -/
structure RDang (v : Vers) (k : Nat) (tune : Int) (but : List Int) (o : Option (List Nat)) : Prop where
  yes : ∀ l, o = some l → OkL k l ∧ Avoids but l ∧ LastT v tune l ∧ l.length ≤ 5 ∧ ∀ u, OkL k u → Avoids but u → LastT v tune u → l.length < u.length ∨ l.length = u.length ∧ (u = l ∨ LBefore (cuesI l) (cuesI u))
  no : o = none → ∀ u, OkL k u → Avoids but u → ¬ LastT v tune u

def dangR (o : Option (List Nat)) : AV := .tup [match o with | none => .lit (.slice none 0 0) | some l => eInts (cuesI l), nb o.isSome]
theorem under_dangR (n : Nat) (o : Option (List Nat)) : (dangR o).under n := by
  cases o with
  | none => exact ⟨trivial, trivial, trivial⟩
  | some l => exact ⟨under_eInts n _, trivial, trivial⟩

theorem RDang.good {v : Vers} {k : Nat} {tune : Int} {but : List Int} {o : Option (List Nat)} (h : RDang v k tune but o) : goodF v tune k but = !o.isSome := by
  cases o with
  | none => exact good_iff.2 fun l h1 h2 => h.no rfl l h1 h2
  | some l =>
    obtain ⟨h1, h2, h3, _⟩ := h.yes l rfl
    cases hg : goodF v tune k but with
    | false => rfl
    | true => exact absurd h3 (good_iff.1 hg l h1 h2)

set_option maxHeartbeats 4000000 in
set_option maxRecDepth 100000 in
theorem c_refDangerO {b : Book} {v : Vers} (hv : VersOk v b.cues.toNat) (hv0 : 0 < v.length) (hv4 : v.length ≤ 4) (hbc : inI b.cues 1 4) (tune : Int) (but : List Int) (hbl : but.length ≤ 1000000) :
    ∃ u, (∃ o, u = dangR o ∧ RDang v b.cues.toNat tune but o) ∧ ∀ H2, ACall Tryz.prog 76 [eBook b, eVersion v, n' tune, eInts but] ([] ++ H2) (.ret u) ([] ++ H2) := by
  unfold inI at hbc
  refine fn_preE (m := false) (fn := Tryz.f76) (c := (Tryz.f76.body).getD .skip) (t0 := ofL []) (n0 := 0) _ mixed (by kernel_rfl) (by kernel_rfl) (of_decide_eq_true (by kernel_rfl)) (HT.full (l := []) trivial rfl) ?_ (fun _ h => by cases h) ?_
  · exact ⟨under_eBook 0 _, under_eVersion 0 _, trivial, under_eInts 0 _, trivial⟩
  · refine LoopG.at (n0 := 2) rfl (loop_up mixed (m := false) (fun r => [(2, n' tune), (3, eInts but), (4, .ptr 0 0), (5, .ptr 1 0), (10, eLists (avL b.cues.toNat but r)), (11, n' r)]) (fun _ => [(0, bBox b), (1, vBox v)]) (fun r => ∀ y, OkL b.cues.toNat y → Avoids but y → LastT v tune y → r < y.length) (v.length + 1) 0 (Nat.zero_le _) (fun y _ _ h => ?_) ?_ ?_ ?_)
    · obtain ⟨l0, c, rfl, _⟩ := h
      simp
    · exact ⟨⟨_, rfl, Weak.refl _ _, trivial⟩, ⟨_, rfl, Weak.refl _ _, under_eInts _ _⟩, ⟨_, rfl, Weak.refl _ _, ltb rfl⟩, ⟨_, rfl, Weak.refl _ _, ltb rfl⟩, ⟨_, rfl, wk_lists, under_eLists _ _⟩, ⟨_, rfl, Weak.refl _ _, trivial⟩, trivial⟩
    · exact ⟨⟨rfl, ltb rfl⟩, ⟨rfl, ltb rfl⟩, trivial⟩
    · intro r hr hI
      refine If.mk (fun h1 => ?_) (fun h1 => ?_)
      · refine IfB.mk (fun _ => ?_) (fun e => by cases e)
        have hr4 : r ≤ 4 := by omega
        have hlen : (avL b.cues.toNat but r).length ≤ 1024 := Nat.le_trans (avL_length (by omega) but r) (pow4 (by omega))
        have hlc : (avL b.cues.toNat but r).length * b.cues.toNat ≤ 4096 := Nat.mul_le_mul hlen (show b.cues.toNat ≤ 4 by omega)
        have hll : ∀ l ∈ avL b.cues.toNat but r, l.length < 1000 := fun l hl => by
          obtain ⟨y, rfl, _, _, h⟩ := avL_mem.1 hl
          show (List.map _ y).length < _
          rw [List.length_map]; omega
        refine CallG.pure _ (c_longer (by omega) (avL b.cues.toNat but r) (by omega) (by omega) hll) ?_
        have hxl := longer_length b.cues.toNat (avL b.cues.toNat but r)
        have hXs : (longerL b.cues.toNat (avL b.cues.toNat but r)).Pairwise LBefore := longer_sorted (n := r) (fun l hl => by
          obtain ⟨y, rfl, _, _, h⟩ := avL_mem.1 hl
          rw [cuesI_length, h]) (avL_sorted _ _ _)
        generalize hX : longerL b.cues.toNat (avL b.cues.toNat but r) = X at hxl hXs
        refine LoopG.ghost (LoopG.at (n0 := 3) rfl ?_)
        refine loop_up mixed (m := false) (fun q => [(2, n' tune), (3, eInts but), (4, .ptr 0 0), (5, .ptr 1 0), (11, n' r), (12, rowL (keepL but (X.take q)) 2), (13, eLists X), (14, n' q)]) (fun q => [(0, bBox b), (1, vBox v), (2, .row (keepL but (X.take q)).length)]) (fun q => ∀ y, OkL b.cues.toNat y → Avoids but y → LastT v tune y → cuesI y ∉ X.take q) X.length 2 (leb rfl) (fun _ _ _ _ h => by cases h) ?_ ?_ ?_
        · exact ⟨⟨_, rfl, Weak.refl _ _, trivial⟩, ⟨_, rfl, Weak.refl _ _, under_eInts _ _⟩, ⟨_, rfl, Weak.refl _ _, ltb rfl⟩, ⟨_, rfl, Weak.refl _ _, ltb rfl⟩, ⟨_, rfl, Weak.refl _ _, trivial⟩, ⟨_, rfl, Weak.own (r := 2) (g := 0) 1 rfl, ⟨trivial, ltb rfl⟩⟩, ⟨_, rfl, Weak.refl _ _, under_eLists _ _⟩, ⟨_, rfl, Weak.refl _ _, trivial⟩, trivial⟩
        · exact ⟨⟨rfl, ltb rfl⟩, ⟨rfl, ltb rfl⟩, ⟨rfl, ltb rfl⟩, trivial⟩
        · intro q hq hJ
          refine If.mk (fun h2 => ?_) (fun h2 => ?_)
          · refine IfB.mk (fun _ => ?_) (fun e => by cases e)
            obtain ⟨x, hx, htk, hxm⟩ := at_some (l := X) (r := q) (by omega)
            have hxm' := hxm
            rw [← hX] at hxm'
            obtain ⟨l, hl, c, hc, e⟩ := longer_in.1 hxm'
            obtain ⟨y, rfl, hy1, hy2, hy3⟩ := avL_mem.1 hl
            have hyl : (cuesI y).length = r := by show (List.map _ y).length = _; rw [List.length_map, hy3]
            have hlx : x.length = r + 1 := by rw [e, List.length_append, hyl]; rfl
            have hxl : x[r]? = some (c : Int) := by
              rw [e, List.getElem?_append_right (by omega), hyl, Nat.sub_self]
              rfl
            have hla : lastI x = c := by rw [e, lastI_snoc]
            refine Ex.mk _ (jx_lists (r := q) rfl hx) ?_
            refine Ex.mk _ rfl ?_
            refine Side.mk (fits64 (by omega)) ?_
            refine Ex.mk _ (jx_lists (r := q) rfl hx) ?_
            refine Ex.mk _ rfl ?_
            refine Ex.mk _ (jx_ints (r := r) (by omega) hxl) ?_
            refine Ex.mk _ rfl ?_
            refine CallG.bool (c_listed but c (by omega)) (fun h => ?_) (fun h => ?_)
            · -- its last cue is one of these
              refine IfB.mk (fun _ => ?_) (fun e => by cases e)
              refine Side.mk (fits64 (by omega)) ?_
              refine ⟨leb rfl, rfl, by omega, fun y' ho ha ht hm => ?_, ⟨⟨_, rfl, Weak.refl _ _, trivial⟩, ⟨_, rfl, Weak.refl _ _, under_eInts _ _⟩, ⟨_, rfl, Weak.refl _ _, ltb rfl⟩, ⟨_, rfl, Weak.refl _ _, ltb rfl⟩, ⟨_, rfl, Weak.refl _ _, trivial⟩, ⟨_, rfl, Weak.of_eq (?_), under_rowL _ (ltb rfl) _⟩, ⟨_, rfl, Weak.refl _ _, under_eLists _ _⟩, ⟨_, rfl, Weak.refl _ _, trivial⟩, trivial⟩, ⟨⟨rfl, ltb rfl⟩, ⟨rfl, ltb rfl⟩, ⟨?_, ltb rfl⟩, trivial⟩, trivial⟩
              · rw [htk] at hm
                rcases List.mem_append.1 hm with hm | hm
                · exact hJ y' ho ha ht hm
                · rw [List.mem_singleton, e, ← cuesI_snoc] at hm
                  rw [cuesI_inj hm] at ha
                  exact (avoids_snoc.1 ha).2 h
              · rw [htk, keep_drop (by rw [hla]; exact h)]
              · rw [htk, keep_drop (by rw [hla]; exact h)]
                rfl
            · refine IfB.mk (fun e => by cases e) (fun _ => ?_)
              have hok : OkL b.cues.toNat (y ++ [c]) := fun z hz => by
                rcases List.mem_append.1 hz with hz | hz
                · exact hy1 z hz
                · rw [List.mem_singleton] at hz; subst hz; exact hc
              have hco : CuesOk b.cues.toNat x := by rw [e, ← cuesI_snoc]; exact cuesI_ok hok
              have hpl : (plays v 0 x)[r]? = some (mv v (after v 0 (cuesI y)) c).2 := by
                rw [e, plays_snoc, List.getElem?_append_right (by rw [plays_length]; omega), plays_length, hyl, Nat.sub_self, Int.toNat_natCast]
                rfl
              refine Ex.mk _ (jx_lists (r := q) rfl hx) ?_
              refine Ex.mk _ rfl ?_
              refine CallG.pure _ (c_refPlays hv hv0 hco (by omega)) ?_
              refine Ex.mk _ (jx_ints (r := r) (by omega) hpl) ?_
              refine Ex.mk _ rfl ?_
              refine If.mk (fun h3 => ?_) (fun h3 => ?_)
              · refine IfB.mk (fun _ => ?_) (fun e => by cases e)
                refine Ex.mk _ (jx_lists (r := q) rfl hx) ?_
                refine Ex.mk _ rfl ?_
                have ex : cuesI (y ++ [c]) = x := by rw [cuesI_snoc, ← e]
                have hyl1 : (y ++ [c]).length = r + 1 := by rw [List.length_append, hy3]; rfl
                refine ⟨leb rfl, leb rfl, .inl rfl, leb rfl, rfl, _, dangR (some (y ++ [c])), rfl, (fun H => ?_), under_dangR _ _, some (y ++ [c]), rfl, ⟨fun l' e' => ?_, fun e' => (by cases e')⟩⟩
                · show WeakH H _ (.tup [eInts (cuesI (y ++ [c])), nb true])
                  rw [ex]
                  exact WeakH.refl _ H
                · obtain rfl := Option.some.inj e'
                  refine ⟨hok, avoids_snoc.2 ⟨hy2, h⟩, lastT_snoc.2 h3, by omega, fun w ho ha ht => ?_⟩
                  have hw := hI w ho ha ht
                  rcases Nat.lt_or_ge (r + 1) w.length with hlt | hge
                  · exact .inl (by omega)
                  · have hwl : w.length = r + 1 := by omega
                    refine .inr ⟨by omega, ?_⟩
                    have hmw : cuesI w ∈ X := by
                      have hm : cuesI w ∈ avL b.cues.toNat but (r + 1) := avL_mem.2 ⟨w, rfl, ho, ha, hwl⟩
                      rw [show avL b.cues.toNat but (r + 1) = keepL but (longerL b.cues.toNat (avL b.cues.toNat but r)) from rfl, hX] at hm
                      exact (List.mem_filter.1 hm).1
                    rcases sorted_at hXs hx hmw (hJ w ho ha ht) with h4 | h4
                    · exact .inl (cuesI_inj (by rw [h4, ex]))
                    · exact .inr (by rw [ex]; exact h4)
              · refine IfB.mk (fun e => by cases e) (fun _ => ?_)
                refine Ex.mk _ (jx_lists (r := q) rfl hx) ?_
                refine Ex.mk _ rfl ?_
                have hkl : (keepL but (X.take q)).length ≤ X.length := Nat.le_trans (List.length_filter_le _ _) (by rw [List.length_take]; omega)
                refine ex_app _ _ (app_list (List.length_map _) (by omega) rfl rfl) ?_
                refine Side.mk (fits64 (by omega)) ?_
                have ek : keepL but (X.take (q + 1)) = keepL but (X.take q) ++ [x] := by rw [htk, keep_snoc (by rw [hla]; exact h)]
                refine ⟨leb rfl, rfl, by omega, fun y' ho ha ht hm => ?_, ⟨⟨_, rfl, Weak.refl _ _, trivial⟩, ⟨_, rfl, Weak.refl _ _, under_eInts _ _⟩, ⟨_, rfl, Weak.refl _ _, ltb rfl⟩, ⟨_, rfl, Weak.refl _ _, ltb rfl⟩, ⟨_, rfl, Weak.refl _ _, trivial⟩, ⟨_, rfl, Weak.of_eq (?_), under_rowL _ (ltb rfl) _⟩, ⟨_, rfl, Weak.refl _ _, under_eLists _ _⟩, ⟨_, rfl, Weak.refl _ _, trivial⟩, trivial⟩, ⟨⟨rfl, ltb rfl⟩, ⟨rfl, ltb rfl⟩, ⟨?_, ltb rfl⟩, trivial⟩, ⟨_, rfl, trivial⟩, trivial⟩
                · rw [htk] at hm
                  rcases List.mem_append.1 hm with hm | hm
                  · exact hJ y' ho ha ht hm
                  · rw [List.mem_singleton, e, ← cuesI_snoc] at hm
                    rw [cuesI_inj hm] at ht
                    exact h3 (lastT_snoc.1 ht)
                · rw [ek]
                  unfold rowL
                  rw [List.length_append, List.map_append]
                  rfl
                · rw [ek, List.length_append]
                  rfl
          · refine IfB.mk (fun e => by cases e) (fun _ => ?_)
            have eq : q = X.length := by omega
            subst eq
            rw [List.take_length] at hJ
            have er : avL b.cues.toNat but (r + 1) = keepL but X := by rw [← hX]; rfl
            refine ⟨leb rfl, ?_⟩
            refine Side.mk (fits64 (by omega)) ?_
            refine ⟨leb rfl, rfl, by omega, fun y ho ha ht => ?_, ⟨⟨_, rfl, Weak.refl _ _, trivial⟩, ⟨_, rfl, Weak.refl _ _, under_eInts _ _⟩, ⟨_, rfl, Weak.refl _ _, ltb rfl⟩, ⟨_, rfl, Weak.refl _ _, ltb rfl⟩, ⟨_, rfl, ?_, under_eLists _ _⟩, ⟨_, rfl, Weak.refl _ _, trivial⟩, trivial⟩, ⟨⟨rfl, ltb rfl⟩, ⟨rfl, ltb rfl⟩, trivial⟩, trivial⟩
            · have := hI y ho ha ht
              refine Nat.lt_of_le_of_ne this fun e => hJ y ho ha ht ?_
              have hm : cuesI y ∈ avL b.cues.toNat but (r + 1) := avL_mem.2 ⟨y, rfl, ho, ha, e.symm⟩
              rw [er] at hm
              exact (List.mem_filter.1 hm).1
            · rw [er, List.take_length]
              exact Weak.tail _ _ _ _
      · refine IfB.mk (fun e => by cases e) (fun _ => ?_)
        refine ⟨leb rfl, .inl rfl, leb rfl, rfl, _, dangR none, rfl, (fun H => WeakH.refl _ H), under_dangR _ _, none, rfl, ⟨fun l' e' => (by cases e'), fun _ w ho ha ht => ?_⟩⟩
        obtain ⟨w', k1, k2, k3, k4⟩ := cut_soon hv hv0 (Nat.le_refl _) ho ha ht
        have := hI w' k1 k2 k3
        omega
end Go.Vm

/-
  Contracts: Fence of package kelirref04. (Own work.)
-/
namespace Go.Vm
open Go.Proofs

theorem allS_lst (K r : Nat) : allS K (r + 1) = allS K r ++ lstT K r 0 := by
  rw [allS_succ, subs_tails, lstT_eq]
  simp

theorem incr_range (K : Nat) : ∀ n s, s + n ≤ K → Incr K s ((List.range' s n).map fun c : Nat => (c : Int))
  | 0, _, _ => trivial
  | n + 1, s, hs => by
    rw [List.range'_succ, List.map_cons]
    refine ⟨by omega, by omega, ?_⟩
    rw [Int.toNat_natCast]
    exact incr_range K n (s + 1) (by omega)

theorem incr_full {K : Nat} : ∀ {l : List Int} {s : Nat}, Incr K s l → s + l.length = K → ∀ c : Nat, s ≤ c → c < K → (c : Int) ∈ l
  | [], s, _, h, c, h1, h2 => by simp at h; omega
  | a :: l, s, ⟨k1, k2, k3⟩, h, c, h1, h2 => by
    have := incr_length k3 (by omega)
    rw [List.length_cons] at h
    by_cases hc : c = s
    · have : (c : Int) = a := by omega
      rw [this]; simp
    · exact List.mem_cons_of_mem _ (incr_full k3 (by omega) c (by omega) h2)

theorem lst_last (v : Vers) (tune : Int) (K : Nat) : ∃ x, (lstT K K 0)[0]? = some x ∧ goodF v tune K x = true := by
  have hm : (List.range' 0 K).map (fun c : Nat => (c : Int)) ∈ lstT K K 0 := by
    rw [lstT_eq]
    exact (subT_mem (Nat.zero_le _)).2 ⟨by simp, incr_range K K 0 (by omega)⟩
  cases hL : lstT K K 0 with
  | nil => rw [hL] at hm; cases hm
  | cons x L =>
    refine ⟨x, rfl, good_iff.2 fun l h1 h2 h3 => ?_⟩
    have hx : x ∈ subT K K 0 := by rw [← lstT_eq, hL]; simp
    obtain ⟨k1, k2⟩ := (subT_mem (Nat.zero_le _)).1 hx
    obtain ⟨l0, c, e, _⟩ := h3
    subst e
    exact h2 c (by simp) (incr_full k2 (by omega) c (Nat.zero_le _) (h1 c (by simp)))

/-- If what was tried is no fence, and this is one: it is the fence. -/
theorem fence_hit {v : Vers} {tune : Int} {K m q : Nat} {x : List Int} (hm : m ≤ K) (hx : (lstT K m 0)[q]? = some x) (hI : (runF (goodF v tune K) (allS K m ++ (lstT K m 0).take q) []).1 = false) (hg : goodF v tune K x = true) : fenceL v tune K = x := by
  obtain ⟨rest, hr⟩ := allS_more K (r := m + 1) (n := K + 1) (by omega)
  obtain ⟨hq, hx'⟩ := List.getElem?_eq_some_iff.1 hx
  have e : allS K (K + 1) = (allS K m ++ (lstT K m 0).take q) ++ (x :: ((lstT K m 0).drop (q + 1) ++ rest)) := by
    rw [hr, allS_lst, ← hx', ← List.cons_append, ← List.drop_eq_getElem_cons hq, List.append_assoc, List.append_assoc, ← List.append_assoc ((lstT K m 0).take q), List.take_append_drop]
  unfold fenceL
  rw [e, runF_append, hI]
  simp only [Bool.false_eq_true, if_false]
  unfold runF
  rw [if_pos hg]

set_option maxHeartbeats 4000000 in
set_option maxRecDepth 100000 in
theorem c_refFence {b : Book} {v : Vers} (hv : VersOk v b.cues.toNat) (hv0 : 0 < v.length) (hv4 : v.length ≤ 4) (hbc : inI b.cues 1 4) (tune : Int) (H : List Blk) :
    ACall Tryz.prog 77 [eBook b, eVersion v, n' tune] H (.ret (eInts (fenceL v tune b.cues.toNat))) H := by
  have hbc' := hbc
  unfold inI at hbc'
  refine fn_rule (m := false) (fn := Tryz.f77) (c := (Tryz.f77.body).getD .skip) mixed (by kernel_rfl) (by kernel_rfl) (of_decide_eq_true (by kernel_rfl)) ?_ ?_ ?_ H
  · exact ⟨under_eBook 0 _, under_eVersion 0 _, trivial, trivial⟩
  · exact under_eInts 0 _
  · refine LoopG.at (n0 := 2) rfl (loop_up mixed (m := false) (fun m => [(2, n' tune), (3, .ptr 0 0), (4, .ptr 1 0), (7, n' m)]) (fun _ => [(0, bBox b), (1, vBox v)]) (fun m => (runF (goodF v tune b.cues.toNat) (allS b.cues.toNat m) []).1 = false) b.cues.toNat 0 (Nat.zero_le _) rfl ?_ ?_ ?_)
    · exact ⟨⟨_, rfl, Weak.refl _ _, trivial⟩, ⟨_, rfl, Weak.refl _ _, ltb rfl⟩, ⟨_, rfl, Weak.refl _ _, ltb rfl⟩, ⟨_, rfl, Weak.refl _ _, trivial⟩, trivial⟩
    · exact ⟨⟨rfl, ltb rfl⟩, ⟨rfl, ltb rfl⟩, trivial⟩
    · intro m hm hI
      refine If.mk (fun h1 => ?_) (fun h1 => ?_)
      · refine IfB.mk (fun _ => ?_) (fun e => by cases e)
        refine CallG.pure _ (c_lists hbc m 0 _ _ rfl rfl (by omega) (by omega)) ?_
        have hXl := lstT_length (K := b.cues.toNat) (by omega) m 0
        have hX4 := pow4 (r := m) (by omega)
        have hXi : ∀ x ∈ lstT b.cues.toNat m 0, x.length = m := fun x hx => lstT_inner hx
        have hhit : ∀ {q : Nat} {x : List Int}, (lstT b.cues.toNat m 0)[q]? = some x → (runF (goodF v tune b.cues.toNat) (allS b.cues.toNat m ++ (lstT b.cues.toNat m 0).take q) []).1 = false → goodF v tune b.cues.toNat x = true → fenceL v tune b.cues.toNat = x := fun h1 h2 h3 => fence_hit hm h1 h2 h3
        have hsucc := allS_lst b.cues.toNat m
        generalize lstT b.cues.toNat m 0 = X at *
        refine LoopG.at (n0 := 2) rfl (loop_up mixed (m := false) (fun q => [(2, n' tune), (3, .ptr 0 0), (4, .ptr 1 0), (7, n' m), (8, eLists X), (9, n' q)]) (fun _ => [(0, bBox b), (1, vBox v)]) (fun q => (runF (goodF v tune b.cues.toNat) (allS b.cues.toNat m ++ X.take q) []).1 = false) X.length 2 (leb rfl) (by rw [List.take_zero, List.append_nil]; exact hI) ?_ ?_ ?_)
        · exact ⟨⟨_, rfl, Weak.refl _ _, trivial⟩, ⟨_, rfl, Weak.refl _ _, ltb rfl⟩, ⟨_, rfl, Weak.refl _ _, ltb rfl⟩, ⟨_, rfl, Weak.refl _ _, trivial⟩, ⟨_, rfl, Weak.refl _ _, under_eLists _ _⟩, ⟨_, rfl, Weak.refl _ _, trivial⟩, trivial⟩
        · exact ⟨⟨rfl, ltb rfl⟩, ⟨rfl, ltb rfl⟩, trivial⟩
        · intro q hq hJ
          refine If.mk (fun h2 => ?_) (fun h2 => ?_)
          · refine IfB.mk (fun _ => ?_) (fun e => by cases e)
            obtain ⟨x, hx, htk, hxm⟩ := at_some (l := X) (r := q) (by omega)
            have hxl := hXi x hxm
            obtain ⟨_, ⟨o, rfl, hR⟩, hrd⟩ := c_refDangerO hv hv0 hv4 hbc tune x (by omega)
            have hgd := hR.good
            refine Ex.mk _ (jx_lists (r := q) rfl hx) ?_
            refine Ex.mk _ rfl ?_
            cases o with
            | none =>
              refine CallG.pure _ (fun H => hrd H) ?_
              refine IfB.mk (fun _ => ?_) (fun e => by cases e)
              refine Ex.mk _ (jx_lists (r := q) rfl hx) ?_
              refine Ex.mk _ rfl ?_
              refine ⟨leb rfl, Nat.zero_le _, .inl rfl, FinG.mk _ rfl rfl ?_⟩
              show AV.freeze _ (eInts x) = _
              rw [freeze_eInts, hhit hx hJ hgd]
            | some l =>
              refine CallG.pure _ (fun H => hrd H) ?_
              refine IfB.mk (fun e => by cases e) (fun _ => ?_)
              refine Side.mk (fits64 (by omega)) ?_
              refine ⟨leb rfl, rfl, by omega, ?_, ⟨⟨_, rfl, Weak.refl _ _, trivial⟩, ⟨_, rfl, Weak.refl _ _, ltb rfl⟩, ⟨_, rfl, Weak.refl _ _, ltb rfl⟩, ⟨_, rfl, Weak.refl _ _, trivial⟩, ⟨_, rfl, Weak.refl _ _, under_eLists _ _⟩, ⟨_, rfl, Weak.refl _ _, trivial⟩, trivial⟩, ⟨⟨rfl, ltb rfl⟩, ⟨rfl, ltb rfl⟩, trivial⟩, trivial⟩
              show (runF (goodF v tune b.cues.toNat) (allS b.cues.toNat m ++ X.take (q + 1)) []).1 = false
              have hgd' : goodF v tune b.cues.toNat x = false := hgd
              rw [htk, ← List.append_assoc, runF_append, hJ]
              simp only [Bool.false_eq_true, if_false]
              unfold runF
              rw [if_neg (by rw [hgd']; decide)]
              rfl
          · refine IfB.mk (fun e => by cases e) (fun _ => ?_)
            have eq : q = X.length := by omega
            subst eq
            refine ⟨leb rfl, ?_⟩
            refine Side.mk (fits64 (by omega)) ?_
            refine ⟨Nat.zero_le _, rfl, by omega, ?_, ⟨⟨_, rfl, Weak.refl _ _, trivial⟩, ⟨_, rfl, Weak.refl _ _, ltb rfl⟩, ⟨_, rfl, Weak.refl _ _, ltb rfl⟩, ⟨_, rfl, Weak.refl _ _, trivial⟩, trivial⟩, ⟨⟨rfl, ltb rfl⟩, ⟨rfl, ltb rfl⟩, trivial⟩, trivial⟩
            show (runF (goodF v tune b.cues.toNat) (allS b.cues.toNat (m + 1)) []).1 = false
            rw [hsucc]
            rwa [List.take_length] at hJ
      · refine IfB.mk (fun e => by cases e) (fun _ => ?_)
        refine ⟨Nat.zero_le _, ?_⟩
        have em : m = b.cues.toNat := by omega
        subst em
        obtain ⟨x, hx, hg⟩ := lst_last v tune b.cues.toNat
        have hf := fence_hit (Nat.le_refl _) hx (by rw [List.take_zero, List.append_nil]; exact hI) hg
        refine CallG.pure _ (c_lists hbc b.cues.toNat 0 _ _ (by omega) rfl (by omega) (by omega)) ?_
        refine Ex.mk _ (jx_lists (r := 0) rfl hx) ?_
        refine Ex.mk _ rfl ?_
        refine ⟨.inl rfl, FinG.mk _ rfl rfl ?_⟩
        show AV.freeze _ (eInts x) = _
        rw [freeze_eInts, hf]
end Go.Vm

/-
  Contracts: Never. (Own work.)
-/
namespace Go.Vm
open Go.Proofs

/-- The tune of a cue, after others, of a version. -/
def tuneN (b : Book) (cues : List Int) (c : Nat) (n : Int) : Int := (mv (b.vs.getD n.toNat []) (after (b.vs.getD n.toNat []) 0 cues) c).2

theorem tune_at {b : Book} (hB : BOk b) {cues : List Int} (hc : CuesOk b.cues.toNat cues) {n : Int} (hn : 0 ≤ n ∧ n < b.vs.length) {c : Nat} (hcc : c < b.cues.toNat) :
    ∃ v x m, b.vs[n.toNat]? = some v ∧ VersOk v b.cues.toNat ∧ 0 < v.length ∧ v[after v 0 cues]? = some x ∧ x[c]? = some m ∧ m.2 = tuneN b cues c n := by
  obtain ⟨v, hv⟩ : ∃ v, b.vs[n.toNat]? = some v := ⟨_, List.getElem?_eq_getElem (by omega)⟩
  obtain ⟨hvo, hv0⟩ := (hB.2 v (List.mem_of_getElem? hv)).vers
  obtain ⟨x, h1, h2, _, _⟩ := mv_at hvo (after_lt hvo hc hv0) hcc
  refine ⟨v, x, _, hv, hvo, hv0, h1, h2, ?_⟩
  have e : b.vs.getD n.toNat [] = v := getD_of hv
  unfold tuneN
  rw [e]

/-- Some version plays the tune then. -/
def Plays1 (b : Book) (L : List Int) (cues : List Int) (tune : Int) (c : Nat) : Prop := ∃ n ∈ L, tuneN b cues c n = tune
instance (b : Book) (L : List Int) (cues : List Int) (tune : Int) (c : Nat) : Decidable (Plays1 b L cues tune c) := by unfold Plays1; infer_instance
/-- The cues that must not be given now. -/
def badL (b : Book) (L : List Int) (cues : List Int) (tune : Int) : Nat → List Int
  | 0 => []
  | r + 1 => if Plays1 b L cues tune r then badL b L cues tune r ++ [(r : Int)] else badL b L cues tune r
theorem badL_length (b : Book) (L : List Int) (cues : List Int) (tune : Int) : ∀ r, (badL b L cues tune r).length ≤ r
  | 0 => Nat.le_refl _
  | r + 1 => by
    have ih := badL_length b L cues tune r
    unfold badL
    split
    · rw [List.length_append]; simp; omega
    · omega
def rowI (l : List Int) (id : Nat) : AV := .sl l.length (l.map n') (.own id l.length 1)
theorem under_rowI {n id : Nat} (h : id < n) (l : List Int) : (rowI l id).under n := ⟨under_ints _ _, h⟩

def tBox (t : Int) : Blk := .box [n' t] 3
def nvL (b : Book) (now : Evening) (tune c : Int) : List (Nat × Blk) := [(0, bBox b), (1, nowBox now), (2, tBox tune), (16, tBox c)]

set_option maxRecDepth 100000 in
theorem c_137 {b : Book} (hB : BOk b) {now : Evening} (hc : CuesOk b.cues.toNat now.1) (hL : now.1.length < 1000000) {tune : Int} {c : Nat} (hcc : c < b.cues.toNat) (n : Int) (hn : 0 ≤ n ∧ n < b.vs.length) (H : List Blk) (hH : HT (ofL (nvL b now tune c)) 17 H) :
    ACall Tryz.prog 137 [n' n, .ptr 0 0, .ptr 1 0, .ptr 16 0, .ptr 2 0] H (.ret (.lit (.bool (decide (tuneN b now.1 c n = tune))))) H := by
  obtain ⟨v, x, m, hv, hvo, hv0, hx1, hx2, e⟩ := tune_at hB hc hn hcc
  refine fn_at (m := false) (fn := Tryz.f137) (c := (Tryz.f137.body).getD .skip) mixed (by kernel_rfl) (by kernel_rfl) (of_decide_eq_true (by kernel_rfl)) rfl ?_ H hH
  refine Ex.mk _ (jx_versions (r := n.toNat) (by omega) hv) ?_
  refine Ex.mk _ rfl ?_
  refine CallG.pure _ (c_played hvo hv0 hc hL) ?_
  refine CallG.pure _ (c_hears hx1 hx2) ?_
  refine If.mk (fun h => ?_) (fun h => ?_)
  · exact ⟨.inl rfl, leb rfl, FinF.bool rfl rfl ⟨fun _ => rfl, fun _ => by rw [← e]; exact h⟩⟩
  · exact ⟨.inl rfl, leb rfl, FinF.bool rfl rfl ⟨fun y => absurd (e.trans y) h, fun y => by cases y⟩⟩

set_option maxHeartbeats 4000000 in
set_option maxRecDepth 100000 in
theorem c_Never {b : Book} (hl : BLen b) (hB : BOk b) {evs : List Evening} (hE : EvsOk b evs) {now : Evening} (hN : EvOk b now) {tune : Int} (ht : inI tune 0 (b.tunes - 1)) (hne : remL b.vs (evs ++ [now]) b.vs.length ≠ []) (H : List Blk) :
    ACall Tryz.prog 74 [eBook b, eEvenings evs, eEvening now, n' tune] H (.ret (.tup [eInts (badL b (remL b.vs (evs ++ [now]) b.vs.length) now.1 tune b.cues.toNat), .lit (.int .i64 0)])) H := by
  have hbc := hB.1.1
  have hvn := hB.1.2.2
  unfold inI at hbc hvn
  have hRl := remL_length b.vs (evs ++ [now]) b.vs.length
  have hmem : ∀ j ∈ remL b.vs (evs ++ [now]) b.vs.length, 0 ≤ j ∧ j < b.vs.length := fun j hj => remL_mem hj
  obtain ⟨hc1, hc2⟩ := hN.1.1.cues (by omega)
  refine fn_rule (m := false) (fn := Tryz.f74) (c := (Tryz.f74.body).getD .skip) mixed (by kernel_rfl) (by kernel_rfl) (of_decide_eq_true (by kernel_rfl)) ?_ ?_ ?_ H
  · exact ⟨under_eBook 0 _, under_eEvenings 0 _, under_eEvening 0 _, trivial, trivial⟩
  · exact under_tup2 (under_eInts 0 _) trivial
  · refine CallG.bool (c_hasTune hB.fit tune) (fun _ => ?_) (fun x => absurd ht x)
    refine CallG.pure _ (c_left hl hB hE hN hne) ?_
    generalize remL b.vs (evs ++ [now]) b.vs.length = L at *
    refine If.mk (fun _ => ?_) (fun h => absurd (by decide) h)
    refine IfB.mk (fun e => by cases e) (fun _ => ?_)
    refine LoopG.ghost (LoopG.at (n0 := 16) rfl ?_)
    refine loop_up mixed (m := false) (fun r => [(4, .ptr 0 0), (6, .ptr 1 0), (7, .ptr 2 0), (10, eInts L), (12, rowI (badL b L now.1 tune r) 15), (29, n' b.cues), (30, n' r)]) (fun r => [(0, bBox b), (1, nowBox now), (2, tBox tune), (15, .row (badL b L now.1 tune r).length)]) (fun _ => True) b.cues.toNat 15 (leb rfl) trivial ?_ ?_ ?_
    · exact ⟨⟨_, rfl, Weak.refl _ _, ltb rfl⟩, ⟨_, rfl, Weak.refl _ _, ltb rfl⟩, ⟨_, rfl, Weak.refl _ _, ltb rfl⟩, ⟨_, rfl, Weak.refl _ _, under_eInts _ _⟩, ⟨_, rfl, Weak.own (r := 15) (g := 0) 1 rfl, ⟨trivial, ltb rfl⟩⟩, ⟨_, rfl, Weak.refl _ _, trivial⟩, ⟨_, rfl, Weak.refl _ _, trivial⟩, trivial⟩
    · exact ⟨⟨rfl, ltb rfl⟩, ⟨rfl, ltb rfl⟩, ⟨rfl, ltb rfl⟩, ⟨rfl, ltb rfl⟩, trivial⟩
    · intro r hr _
      have hbl := badL_length b L now.1 tune r
      refine If.mk (fun h1 => ?_) (fun h1 => ?_)
      · refine IfB.mk (fun _ => ?_) (fun e => by cases e)
        refine CallG.atB (p := Plays1 b L now.1 tune r) (fun H hH => c_containsI (n0 := 17) (L0 := nvL b now tune r) (leb rfl) ⟨⟨rfl, ltb rfl⟩, ⟨rfl, ltb rfl⟩, ⟨rfl, ltb rfl⟩, ⟨rfl, ltb rfl⟩, trivial⟩ 137 [.ptr 0 0, .ptr 1 0, .ptr 16 0, .ptr 2 0] ⟨ltb rfl, ltb rfl, ltb rfl, ltb rfl, trivial⟩ (fun n => tuneN b now.1 r n = tune) L (by omega) rfl (fun n hn H hH => c_137 hB hc1 hc2 (by omega) n (hmem n hn) H hH) H (hH.sub ⟨⟨rfl, ltb rfl⟩, ⟨rfl, ltb rfl⟩, ⟨rfl, ltb rfl⟩, ⟨rfl, ltb rfl⟩, trivial⟩)) (fun h4 => ?_) (fun h4 => ?_)
        · have e5 : badL b L now.1 tune (r + 1) = badL b L now.1 tune r ++ [(r : Int)] := if_pos h4
          refine IfB.mk (fun _ => ?_) (fun e => by cases e)
          refine ex_app _ _ (app_int (List.length_map _) (by omega) rfl) ?_
          refine Side.mk (fits64 (by omega)) ?_
          refine ⟨leb rfl, rfl, by omega, trivial, ⟨⟨_, rfl, Weak.refl _ _, ltb rfl⟩, ⟨_, rfl, Weak.refl _ _, ltb rfl⟩, ⟨_, rfl, Weak.refl _ _, ltb rfl⟩, ⟨_, rfl, Weak.refl _ _, under_eInts _ _⟩, ⟨_, rfl, Weak.of_eq (?_), under_rowI (ltb rfl) _⟩, ⟨_, rfl, Weak.refl _ _, trivial⟩, ⟨_, rfl, Weak.refl _ _, trivial⟩, trivial⟩, ⟨⟨rfl, ltb rfl⟩, ⟨rfl, ltb rfl⟩, ⟨rfl, ltb rfl⟩, ⟨?_, ltb rfl⟩, trivial⟩, ⟨_, rfl, trivial⟩, trivial⟩
          · unfold rowI
            rw [e5, List.length_append, List.map_append]; rfl
          · rw [e5, List.length_append]; rfl
        · have e5 : badL b L now.1 tune (r + 1) = badL b L now.1 tune r := if_neg h4
          refine IfB.mk (fun e => by cases e) (fun _ => ?_)
          refine Side.mk (fits64 (by omega)) ?_
          refine ⟨leb rfl, rfl, by omega, trivial, ⟨⟨_, rfl, Weak.refl _ _, ltb rfl⟩, ⟨_, rfl, Weak.refl _ _, ltb rfl⟩, ⟨_, rfl, Weak.refl _ _, ltb rfl⟩, ⟨_, rfl, Weak.refl _ _, under_eInts _ _⟩, ⟨_, rfl, Weak.of_eq (?_), under_rowI (ltb rfl) _⟩, ⟨_, rfl, Weak.refl _ _, trivial⟩, ⟨_, rfl, Weak.refl _ _, trivial⟩, trivial⟩, ⟨⟨rfl, ltb rfl⟩, ⟨rfl, ltb rfl⟩, ⟨rfl, ltb rfl⟩, ⟨?_, ltb rfl⟩, trivial⟩, trivial⟩
          · rw [e5]
          · rw [e5]; rfl
      · refine IfB.mk (fun e => by cases e) (fun _ => ?_)
        have er : r = b.cues.toNat := by omega
        subst er
        refine ⟨leb rfl, .inl rfl, FinG.mk _ rfl rfl ?_⟩
        show AV.tup [AV.sl _ (AV.freezes _ ((badL b L now.1 tune b.cues.toNat).map n')) .unk, _] = _
        rw [freezes_ints]
        rfl

set_option maxRecDepth 100000 in
theorem c_Never_none {b : Book} (hl : BLen b) (hB : BOk b) {evs : List Evening} (hE : EvsOk b evs) {now : Evening} (hN : EvOk b now) {tune : Int} (ht : inI tune 0 (b.tunes - 1)) (hne : remL b.vs (evs ++ [now]) b.vs.length = []) (H : List Blk) :
    ACall Tryz.prog 74 [eBook b, eEvenings evs, eEvening now, n' tune] H (.ret (nilS2 7)) H := by
  refine fn_rule (m := false) (fn := Tryz.f74) (c := (Tryz.f74.body).getD .skip) mixed (by kernel_rfl) (by kernel_rfl) (of_decide_eq_true (by kernel_rfl)) ?_ ?_ ?_ H
  · exact ⟨under_eBook 0 _, under_eEvenings 0 _, under_eEvening 0 _, trivial, trivial⟩
  · exact under_tup2 trivial trivial
  · refine CallG.bool (c_hasTune hB.fit tune) (fun _ => ?_) (fun x => absurd ht x)
    refine CallG.pure _ (c_left_none hl hB hE hN hne) ?_
    refine If.mk (fun h => absurd h (by decide)) (fun _ => ?_)
    refine IfB.mk (fun _ => ?_) (fun e => by cases e)
    exact ⟨.inl rfl, FinG.mk _ rfl rfl rfl⟩

set_option maxRecDepth 100000 in
/-- hasTune of any book: what it returns does not matter. -/
theorem c_hasTuneW (b : Book) (n : Int) : ∃ f : Bool, ∀ H, ACall Tryz.prog 132 [eBook b, n' n] H (.ret (.lit (.bool f))) H := by
  refine ⟨decide (inI n 0 (IntKind.i64.wrap (b.tunes - 1))), fun H => ?_⟩
  refine fn_rule (m := false) (fn := Tryz.f132) (c := (Tryz.f132.body).getD .skip) mixed (by kernel_rfl) (by kernel_rfl) (of_decide_eq_true (by kernel_rfl)) ?_ ?_ ?_ H
  · exact ⟨under_eBook 0 _, trivial, trivial⟩
  · trivial
  · refine Side.wr ?_
    refine CallG.bool (c_in _ _ _) (fun h => ?_) (fun h => ?_)
    · exact ⟨.inl rfl, FinG.yes rfl rfl (h)⟩
    · exact ⟨.inl rfl, FinG.no rfl rfl (h)⟩

set_option maxRecDepth 100000 in
theorem c_Never_bad {b : Book} (hl : BLen b) {evs : List Evening} (he1 : evs.length < 4611686018427387904) (he2 : ∀ e ∈ evs, e.1.length < 4611686018427387904 ∧ e.2.length < 4611686018427387904) {now : Evening} (hn1 : now.1.length < 4611686018427387904)
    (hn2 : now.2.length < 4611686018427387904) {tune : Int} (hN : ¬ (BOk b ∧ EvsOk b evs ∧ EvOk b now ∧ inI tune 0 (b.tunes - 1))) (H : List Blk) :
    ACall Tryz.prog 74 [eBook b, eEvenings evs, eEvening now, n' tune] H (.ret (nilS2 2)) H := by
  refine fn_rule (m := false) (fn := Tryz.f74) (c := (Tryz.f74.body).getD .skip) mixed (by kernel_rfl) (by kernel_rfl) (of_decide_eq_true (by kernel_rfl)) ?_ ?_ ?_ H
  · exact ⟨under_eBook 0 _, under_eEvenings 0 _, under_eEvening 0 _, trivial, trivial⟩
  · exact under_tup2 trivial trivial
  · by_cases hB : BOk b
    · refine CallG.bool (c_hasTune hB.fit tune) (fun h => ?_) (fun h => ?_)
      · refine CallG.pure _ (c_left_bad (fine := true) hl he1 he2 hn1 hn2 (fun x => hN ⟨x.1, x.2.1, x.2.2.1, h⟩)) ?_
        refine If.mk (fun h => absurd h (by decide)) (fun _ => ?_)
        refine IfB.mk (fun _ => ?_) (fun e => by cases e)
        exact ⟨.inl rfl, FinG.mk _ rfl rfl rfl⟩
      · refine CallG.pure _ (c_left_bad (fine := false) hl he1 he2 hn1 hn2 (fun x => by cases x.2.2.2)) ?_
        refine If.mk (fun h => absurd h (by decide)) (fun _ => ?_)
        refine IfB.mk (fun _ => ?_) (fun e => by cases e)
        exact ⟨.inl rfl, FinG.mk _ rfl rfl rfl⟩
    · obtain ⟨fine, hf⟩ := c_hasTuneW b tune
      refine CallG.pure _ (hf) ?_
      refine CallG.pure _ (c_left_bad hl he1 he2 hn1 hn2 (fun x => hB x.1)) ?_
      refine If.mk (fun h => absurd h (by decide)) (fun _ => ?_)
      refine IfB.mk (fun _ => ?_) (fun e => by cases e)
      exact ⟨.inl rfl, FinG.mk _ rfl rfl rfl⟩
end Go.Vm

/-
  Contracts: Bad of package kelirref04. (Own work.)
-/
namespace Go.Vm
open Go.Proofs

theorem plays1_snoc {b : Book} {L : List Int} {cues : List Int} {tune : Int} {c : Nat} {n m : Int} (e : m = tuneN b cues c n) : Plays1 b (L ++ [n]) cues tune c ↔ Plays1 b L cues tune c ∨ m = tune := by
  subst e
  unfold Plays1
  constructor
  · rintro ⟨x, hx, h⟩
    rcases List.mem_append.1 hx with h1 | h1
    · exact .inl ⟨x, h1, h⟩
    · rw [List.mem_singleton] at h1; subst h1; exact .inr h
  · rintro (⟨x, hx, h⟩ | h)
    · exact ⟨x, by simp [hx], h⟩
    · exact ⟨n, by simp, h⟩

set_option maxHeartbeats 4000000 in
set_option maxRecDepth 100000 in
theorem c_Bad {b : Book} (hB : BOk b) {L : List Int} (hmem : ∀ j ∈ L, 0 ≤ j ∧ j < b.vs.length) (hLl : L.length ≤ 1000000) {cues : List Int} (hc : CuesOk b.cues.toNat cues) (hL : cues.length < 1000000) (tune : Int) (H : List Blk) :
    ACall Tryz.prog 78 [eBook b, eInts L, eInts cues, n' tune] H (.ret (eInts (badL b L cues tune b.cues.toNat))) H := by
  have hbc := hB.1.1
  have hvn := hB.1.2.2
  unfold inI at hbc hvn
  refine fn_rule (m := false) (fn := Tryz.f78) (c := (Tryz.f78.body).getD .skip) mixed (by kernel_rfl) (by kernel_rfl) (of_decide_eq_true (by kernel_rfl)) ?_ ?_ ?_ H
  · exact ⟨under_eBook 0 _, under_eInts 0 _, under_eInts 0 _, trivial, trivial⟩
  · exact under_eInts 0 _
  · refine LoopG.ghost (LoopG.at (n0 := 2) rfl ?_)
    refine loop_up mixed (m := false) (fun r => [(1, eInts L), (2, eInts cues), (3, n' tune), (4, .ptr 0 0), (9, rowI (badL b L cues tune r) 1), (10, n' r)]) (fun r => [(0, bBox b), (1, .row (badL b L cues tune r).length)]) (fun _ => True) b.cues.toNat 1 (leb rfl) trivial ?_ ?_ ?_
    · exact ⟨⟨_, rfl, Weak.refl _ _, under_eInts _ _⟩, ⟨_, rfl, Weak.refl _ _, under_eInts _ _⟩, ⟨_, rfl, Weak.refl _ _, trivial⟩, ⟨_, rfl, Weak.refl _ _, ltb rfl⟩, ⟨_, rfl, Weak.own (r := 1) (g := 0) 1 rfl, ⟨trivial, ltb rfl⟩⟩, ⟨_, rfl, Weak.refl _ _, trivial⟩, trivial⟩
    · exact ⟨⟨rfl, ltb rfl⟩, ⟨rfl, ltb rfl⟩, trivial⟩
    · intro r hr _
      have hbl := badL_length b L cues tune r
      refine If.mk (fun h1 => ?_) (fun h1 => ?_)
      · refine IfB.mk (fun _ => ?_) (fun e => by cases e)
        refine LoopG.at (n0 := 2) rfl (loop_up mixed (m := false) (fun q => [(1, eInts L), (2, eInts cues), (3, n' tune), (4, .ptr 0 0), (9, rowI (badL b L cues tune r) 1), (10, n' r), (11, nb (decide (Plays1 b (L.take q) cues tune r))), (12, n' q)]) (fun _ => [(0, bBox b), (1, .row (badL b L cues tune r).length)]) (fun _ => True) L.length 2 (leb rfl) trivial ?_ ?_ ?_)
        · exact ⟨⟨_, rfl, Weak.refl _ _, under_eInts _ _⟩, ⟨_, rfl, Weak.refl _ _, under_eInts _ _⟩, ⟨_, rfl, Weak.refl _ _, trivial⟩, ⟨_, rfl, Weak.refl _ _, ltb rfl⟩, ⟨_, rfl, Weak.refl _ _, under_rowI (ltb rfl) _⟩, ⟨_, rfl, Weak.refl _ _, trivial⟩, ⟨_, rfl, Weak.of_eq (congrArg nb (decide_eq_false (fun ⟨_, h, _⟩ => by cases h)).symm), trivial⟩, ⟨_, rfl, Weak.refl _ _, trivial⟩, trivial⟩
        · exact ⟨⟨rfl, ltb rfl⟩, ⟨rfl, ltb rfl⟩, trivial⟩
        · intro q hq _
          generalize hfb : decide (Plays1 b (L.take q) cues tune r) = fb
          refine If.mk (fun h2 => ?_) (fun h2 => ?_)
          · refine IfB.mk (fun _ => ?_) (fun e => by cases e)
            obtain ⟨n, hn, htk, hnm⟩ := at_some (l := L) (r := q) (by omega)
            obtain ⟨v, x, m, hv, hvo, hv0, hx1, hx2, e⟩ := tune_at hB hc (hmem n hnm) (c := r) (by omega)
            have hn0 := hmem n hnm
            have hsn := plays1_snoc (L := L.take q) (tune := tune) e
            rw [← htk] at hsn
            cases fb with
            | true =>
              have e1 := decide_eq_true (hsn.2 (.inl (of_decide_eq_true hfb)))
              refine Ex.mk _ (jx_ints (r := q) rfl hn) ?_
              refine Ex.mk _ rfl ?_
              refine Ex.mk _ (jx_versions (r := n.toNat) (by omega) hv) ?_
              refine Ex.mk _ rfl ?_
              refine Side.mk (fits64 (by omega)) ?_
              exact ⟨leb rfl, rfl, by omega, trivial, ⟨⟨_, rfl, Weak.refl _ _, under_eInts _ _⟩, ⟨_, rfl, Weak.refl _ _, under_eInts _ _⟩, ⟨_, rfl, Weak.refl _ _, trivial⟩, ⟨_, rfl, Weak.refl _ _, ltb rfl⟩, ⟨_, rfl, Weak.refl _ _, under_rowI (ltb rfl) _⟩, ⟨_, rfl, Weak.refl _ _, trivial⟩, ⟨_, rfl, Weak.of_eq (congrArg nb e1.symm), trivial⟩, ⟨_, rfl, Weak.refl _ _, trivial⟩, trivial⟩, ⟨⟨rfl, ltb rfl⟩, ⟨rfl, ltb rfl⟩, trivial⟩, trivial⟩
            | false =>
              have hnp := of_decide_eq_false hfb
              refine Ex.mk _ (jx_ints (r := q) rfl hn) ?_
              refine Ex.mk _ rfl ?_
              refine Ex.mk _ (jx_versions (r := n.toNat) (by omega) hv) ?_
              refine Ex.mk _ rfl ?_
              refine CallG.pure _ (c_after hvo hv0 hc hL) ?_
              refine Ex.mk _ (jx_states (r := after v 0 cues) rfl hx1) ?_
              refine Ex.mk _ rfl ?_
              refine Ex.mk _ (jx_moves (r := r) rfl hx2) ?_
              refine Ex.mk _ rfl ?_
              refine If.mk (fun h3 => ?_) (fun h3 => ?_)
              · have e1 := decide_eq_true (hsn.2 (.inr h3))
                refine Side.mk (fits64 (by omega)) ?_
                exact ⟨leb rfl, rfl, by omega, trivial, ⟨⟨_, rfl, Weak.refl _ _, under_eInts _ _⟩, ⟨_, rfl, Weak.refl _ _, under_eInts _ _⟩, ⟨_, rfl, Weak.refl _ _, trivial⟩, ⟨_, rfl, Weak.refl _ _, ltb rfl⟩, ⟨_, rfl, Weak.refl _ _, under_rowI (ltb rfl) _⟩, ⟨_, rfl, Weak.refl _ _, trivial⟩, ⟨_, rfl, Weak.of_eq (congrArg nb e1.symm), trivial⟩, ⟨_, rfl, Weak.refl _ _, trivial⟩, trivial⟩, ⟨⟨rfl, ltb rfl⟩, ⟨rfl, ltb rfl⟩, trivial⟩, trivial⟩
              · have e1 := decide_eq_false (fun x => (hsn.1 x).elim hnp h3)
                refine Side.mk (fits64 (by omega)) ?_
                exact ⟨leb rfl, rfl, by omega, trivial, ⟨⟨_, rfl, Weak.refl _ _, under_eInts _ _⟩, ⟨_, rfl, Weak.refl _ _, under_eInts _ _⟩, ⟨_, rfl, Weak.refl _ _, trivial⟩, ⟨_, rfl, Weak.refl _ _, ltb rfl⟩, ⟨_, rfl, Weak.refl _ _, under_rowI (ltb rfl) _⟩, ⟨_, rfl, Weak.refl _ _, trivial⟩, ⟨_, rfl, Weak.of_eq (congrArg nb e1.symm), trivial⟩, ⟨_, rfl, Weak.refl _ _, trivial⟩, trivial⟩, ⟨⟨rfl, ltb rfl⟩, ⟨rfl, ltb rfl⟩, trivial⟩, trivial⟩
          · refine IfB.mk (fun e => by cases e) (fun _ => ?_)
            have eq : q = L.length := by omega
            subst eq
            rw [List.take_length] at hfb
            refine ⟨leb rfl, ?_⟩
            cases fb with
            | true =>
              have e5 : badL b L cues tune (r + 1) = badL b L cues tune r ++ [(r : Int)] := if_pos (of_decide_eq_true hfb)
              refine IfB.mk (fun _ => ?_) (fun e => by cases e)
              refine ex_app _ _ (app_int (List.length_map _) (by omega) rfl) ?_
              refine Side.mk (fits64 (by omega)) ?_
              refine ⟨leb rfl, rfl, by omega, trivial, ⟨⟨_, rfl, Weak.refl _ _, under_eInts _ _⟩, ⟨_, rfl, Weak.refl _ _, under_eInts _ _⟩, ⟨_, rfl, Weak.refl _ _, trivial⟩, ⟨_, rfl, Weak.refl _ _, ltb rfl⟩, ⟨_, rfl, Weak.of_eq (?_), under_rowI (ltb rfl) _⟩, ⟨_, rfl, Weak.refl _ _, trivial⟩, trivial⟩, ⟨⟨rfl, ltb rfl⟩, ⟨?_, ltb rfl⟩, trivial⟩, ⟨_, rfl, trivial⟩, trivial⟩
              · unfold rowI
                rw [e5, List.length_append, List.map_append]; rfl
              · rw [e5, List.length_append]; rfl
            | false =>
              have e5 : badL b L cues tune (r + 1) = badL b L cues tune r := if_neg (of_decide_eq_false hfb)
              refine IfB.mk (fun e => by cases e) (fun _ => ?_)
              refine Side.mk (fits64 (by omega)) ?_
              refine ⟨leb rfl, rfl, by omega, trivial, ⟨⟨_, rfl, Weak.refl _ _, under_eInts _ _⟩, ⟨_, rfl, Weak.refl _ _, under_eInts _ _⟩, ⟨_, rfl, Weak.refl _ _, trivial⟩, ⟨_, rfl, Weak.refl _ _, ltb rfl⟩, ⟨_, rfl, Weak.of_eq (?_), under_rowI (ltb rfl) _⟩, ⟨_, rfl, Weak.refl _ _, trivial⟩, trivial⟩, ⟨⟨rfl, ltb rfl⟩, ⟨?_, ltb rfl⟩, trivial⟩, trivial⟩
              · rw [e5]
              · rw [e5]; rfl
      · refine IfB.mk (fun e => by cases e) (fun _ => ?_)
        have er : r = b.cues.toNat := by omega
        subst er
        refine ⟨leb rfl, .inl rfl, FinG.mk _ rfl rfl ?_⟩
        show AV.sl _ (AV.freezes _ ((badL b L cues tune b.cues.toNat).map n')) .unk = _
        rw [freezes_ints]
        rfl
end Go.Vm
