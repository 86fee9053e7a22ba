/-
  Contracts of functions of packages kelirlaw04, kelirref04, kelirref02, cue and slices, for books, evenings and lists as told at each, in every heap. Conditions: at each theorem. (The document's table of first lists that tell states apart.)
-/
import Derived.Test.YtdhdaadoehbopaaGreatDoorCq
import Derived.Test.YtdhdaadoehbopaaGreatDoorVc
import Derived.Test.YtdhdaadoehbopaaGreatDoorCo

namespace Go.Vm
open Go.Proofs
def fstC (h : Nat → List Nat) : Nat → Nat → List Nat
 | 0, _ => []
 | n + 1, c => if h c = [] then fstC h n (c + 1) else h c
theorem fstC_nil {h : Nat → List Nat} : ∀ {n c : Nat}, fstC h n c = [] → ∀ d, c ≤ d → d < c + n → h d = []
 | 0, c, _, d, h1, h2 => by omega
 | n + 1, c, e, d, h1, h2 => by
  unfold fstC at e
  by_cases hc : h c = []
  ·rw [if_pos hc] at e
   rcases Nat.eq_or_lt_of_le h1 with h3 | h3
   ·rw [← h3]; exact hc
   ·exact fstC_nil e d h3 (by omega)
  ·rw [if_neg hc] at e
   exact absurd e hc
theorem fstC_some {h : Nat → List Nat} : ∀ {n c : Nat}, fstC h n c ≠ [] → ∃ d, c ≤ d ∧ d < c + n ∧ fstC h n c = h d ∧ h d ≠ [] ∧ ∀ a, c ≤ a → a < d → h a = []
 | 0, c, e => absurd rfl e
 | n + 1, c, e => by
  unfold fstC at e ⊢
  by_cases hc : h c = []
  ·rw [if_pos hc] at e ⊢
   obtain ⟨d, h1, h2, h3, h4, h5⟩ := fstC_some e
   refine ⟨d, by omega, by omega, h3, h4, fun a h6 h7 => ?_⟩
   rcases Nat.eq_or_lt_of_le h6 with h8 | h8
   ·rw [← h8]; exact hc
   ·exact h5 a h8 h7
  ·rw [if_neg hc]
   exact ⟨c, by omega, by omega, rfl, hc, fun a h6 h7 => by omega⟩
theorem fstC_congr {h h' : Nat → List Nat} (e : ∀ c, h c = h' c) : ∀ n c, fstC h n c = fstC h' n c
 | 0, _ => rfl
 | n + 1, c => by
  unfold fstC
  rw [e, fstC_congr e n]
def hitC (v w : Vers) (D : Nat → Nat → List Nat) (r i j c : Nat) : List Nat :=
 if (mv v i c).2 = (mv w j c).2 then
  (if 0 < (D (mv v i c).1.toNat (mv w j c).1.toNat).length ∧ (D (mv v i c).1.toNat (mv w j c).1.toNat).length + 1 = r then c :: D (mv v i c).1.toNat (mv w j c).1.toNat else [])
 else (if r = 1 then [c] else [])
theorem hitC_length {v w : Vers} {D : Nat → Nat → List Nat} {r i j c : Nat} (h : hitC v w D r i j c ≠ []) : (hitC v w D r i j c).length = r := by
 unfold hitC at h ⊢
 by_cases h1 : (mv v i c).2 = (mv w j c).2
 ·rw [if_pos h1] at h ⊢
  by_cases h2 : 0 < (D (mv v i c).1.toNat (mv w j c).1.toNat).length ∧ (D (mv v i c).1.toNat (mv w j c).1.toNat).length + 1 = r
  ·rw [if_pos h2]
   exact h2.2
  ·rw [if_neg h2] at h
   exact absurd rfl h
 ·rw [if_neg h1] at h ⊢
  by_cases h2 : r = 1
  ·rw [if_pos h2, h2]; rfl
  ·rw [if_neg h2] at h
   exact absurd rfl h
def dF (v w : Vers) (K : Nat) : Nat → Nat → Nat → List Nat
 | 0, _, _ => []
 | r + 1, i, j => if dF v w K r i j = [] then fstC (hitC v w (dF v w K r) (r + 1) i j) K 0 else dF v w K r i j
theorem dF_old {v w : Vers} {K r i j : Nat} (h : dF v w K r i j ≠ []) : dF v w K (r + 1) i j = dF v w K r i j := if_neg h
theorem dF_new {v w : Vers} {K r i j : Nat} (h : dF v w K r i j = []) : dF v w K (r + 1) i j = fstC (hitC v w (dF v w K r) (r + 1) i j) K 0 := if_pos h
theorem dF_step {v w : Vers} {K r i j : Nat} : dF v w K (r + 1) i j = dF v w K r i j ∨ dF v w K r i j = [] ∧ (dF v w K (r + 1) i j).length = r + 1 := by
 by_cases h : dF v w K r i j = []
 ·rw [dF_new h, h]
  by_cases h2 : fstC (hitC v w (dF v w K r) (r + 1) i j) K 0 = []
  ·exact .inl h2
  ·obtain ⟨d, _, _, h3, h4, _⟩ := fstC_some h2
   refine .inr ⟨rfl, ?_⟩
   rw [h3]
   exact hitC_length h4
 ·exact .inl (dF_old h)
theorem hitC_mixed {v w : Vers} {K r : Nat} {M : Nat → Nat → List Nat} (hM : ∀ x y, M x y = dF v w K r x y ∨ M x y = dF v w K (r + 1) x y) (i j c : Nat) : hitC v w M (r + 1) i j c = hitC v w (dF v w K r) (r + 1) i j c := by
 have key : ∀ x y, (M x y = dF v w K r x y) ∨ (¬ (0 < (M x y).length ∧ (M x y).length + 1 = r + 1) ∧ ¬ (0 < (dF v w K r x y).length ∧ (dF v w K r x y).length + 1 = r + 1)) := fun x y => by
  rcases hM x y with h | h
  ·exact .inl h
  ·rcases dF_step (v := v) (w := w) (K := K) (r := r) (i := x) (j := y) with h2 | ⟨h2, h3⟩
   ·exact .inl (h.trans h2)
   ·refine .inr ⟨?_, ?_⟩
    ·rw [h, h3]; omega
    ·rw [h2]; simp
 unfold hitC
 rcases key (mv v i c).1.toNat (mv w j c).1.toNat with h | ⟨h1, h2⟩
 ·rw [h]
 ·rw [if_neg h1, if_neg h2]
def Tells (v w : Vers) (i j : Nat) (u : List Nat) : Prop := plays v i (cuesI u) ≠ plays w j (cuesI u)
theorem tells_cons {v w : Vers} {i j c : Nat} {u : List Nat} : Tells v w i j (c :: u) ↔ (mv v i c).2 ≠ (mv w j c).2 ∨ Tells v w (mv v i c).1.toNat (mv w j c).1.toNat u := by
 unfold Tells
 show ¬ ((mv v i c).2 :: plays v (mv v i c).1.toNat (cuesI u) = (mv w j c).2 :: plays w (mv w j c).1.toNat (cuesI u)) ↔ _
 rw [List.cons.injEq]
 by_cases h : (mv v i c).2 = (mv w j c).2
 ·simp [h]
 ·simp [h]
theorem LE.cons {a b : List Nat} (c : Nat) (h : LE a b) (hl : a.length = b.length) : LE (c :: a) (c :: b) := by
 rcases h with (h | ⟨_, h⟩) | h
 ·omega
 ·exact .inl (.inr ⟨by rw [List.length_cons, List.length_cons, hl], .inr ⟨rfl, h⟩⟩)
 ·rw [h]; exact .inr rfl
structure DOk (v w : Vers) (K r i j : Nat) (l : List Nat) : Prop where
 yes : l ≠ [] → OkL K l ∧ Tells v w i j l ∧ l.length ≤ r ∧ ∀ u, OkL K u → Tells v w i j u → LE l u
 no : l = [] → ∀ u, OkL K u → u.length ≤ r → ¬ Tells v w i j u
theorem okL_cons {K c : Nat} {u : List Nat} : OkL K (c :: u) ↔ c < K ∧ OkL K u := by
 unfold OkL
 simp
theorem dF_ok {v w : Vers} {K : Nat} (hv : VersOk v K) (hw : VersOk w K) : ∀ r i j, i < v.length → j < w.length → DOk v w K r i j (dF v w K r i j)
 | 0, i, j, _, _ => by
  refine ⟨fun h => absurd rfl h, fun _ u _ hl => ?_⟩
  obtain rfl := List.length_eq_zero_iff.1 (by omega : u.length = 0)
  exact fun h => h rfl
 | r + 1, i, j, hi, hj => by
  have ih := dF_ok hv hw r
  by_cases h : dF v w K r i j = []
  ·rw [dF_new h]
   have hno := (ih i j hi hj).no h
   have hit1 : ∀ c, c < K → hitC v w (dF v w K r) (r + 1) i j c ≠ [] → ∃ t, hitC v w (dF v w K r) (r + 1) i j c = c :: t ∧ OkL K (c :: t) ∧ Tells v w i j (c :: t) ∧ ∀ u, OkL K (c :: u) → Tells v w i j (c :: u) → u.length = r → LE (c :: t) (c :: u) := fun c hc hne => by
    obtain ⟨_, _, _, hv', _⟩ := mv_at hv hi hc
    obtain ⟨_, _, _, hw', _⟩ := mv_at hw hj hc
    have ih' := ih _ _ hv' hw'
    have hlen := hitC_length hne
    unfold hitC at hne hlen ⊢
    by_cases h1 : (mv v i c).2 = (mv w j c).2
    ·rw [if_pos h1] at hne hlen ⊢
     by_cases h2 : 0 < (dF v w K r (mv v i c).1.toNat (mv w j c).1.toNat).length ∧ (dF v w K r (mv v i c).1.toNat (mv w j c).1.toNat).length + 1 = r + 1
     ·rw [if_pos h2]
      obtain ⟨k1, k2, _, k4⟩ := ih'.yes (fun e => by rw [e] at h2; simp at h2)
      refine ⟨_, rfl, okL_cons.2 ⟨hc, k1⟩, tells_cons.2 (.inr k2), fun u hu ht hul => ?_⟩
      refine LE.cons c (k4 u (okL_cons.1 hu).2 ?_) (by omega)
      rcases tells_cons.1 ht with h3 | h3
      ·exact absurd h1 h3
      ·exact h3
     ·rw [if_neg h2] at hne
      exact absurd rfl hne
    ·rw [if_neg h1] at hne hlen ⊢
     by_cases h2 : r + 1 = 1
     ·rw [if_pos h2]
      refine ⟨[], rfl, okL_cons.2 ⟨hc, fun _ h => by cases h⟩, tells_cons.2 (.inl h1), fun u _ _ hul => ?_⟩
      obtain rfl := List.length_eq_zero_iff.1 (by omega : u.length = 0)
      exact .inr rfl
     ·rw [if_neg h2] at hne
      exact absurd rfl hne
   have hit2 : ∀ c, c < K → hitC v w (dF v w K r) (r + 1) i j c = [] → ∀ u, OkL K (c :: u) → u.length = r → ¬ Tells v w i j (c :: u) := fun c hc he u hu hul ht => by
    obtain ⟨_, _, _, hv', _⟩ := mv_at hv hi hc
    obtain ⟨_, _, _, hw', _⟩ := mv_at hw hj hc
    have ih' := ih _ _ hv' hw'
    unfold hitC at he
    by_cases h1 : (mv v i c).2 = (mv w j c).2
    ·rw [if_pos h1] at he
     have ht' : Tells v w (mv v i c).1.toNat (mv w j c).1.toNat u := by
      rcases tells_cons.1 ht with h3 | h3
      ·exact absurd h1 h3
      ·exact h3
     by_cases h3 : dF v w K r (mv v i c).1.toNat (mv w j c).1.toNat = []
     ·exact ih'.no h3 u (okL_cons.1 hu).2 (by omega) ht'
     ·obtain ⟨k1, k2, k3, k4⟩ := ih'.yes h3
      have hpos := List.length_pos_iff.2 h3
      by_cases h2 : 0 < (dF v w K r (mv v i c).1.toNat (mv w j c).1.toNat).length ∧ (dF v w K r (mv v i c).1.toNat (mv w j c).1.toNat).length + 1 = r + 1
      ·rw [if_pos h2] at he
       cases he
      ·exact hno (c :: dF v w K r (mv v i c).1.toNat (mv w j c).1.toNat) (okL_cons.2 ⟨hc, k1⟩) (by rw [List.length_cons]; omega) (tells_cons.2 (.inr k2))
    ·rw [if_neg h1] at he
     by_cases h2 : r + 1 = 1
     ·rw [if_pos h2] at he
      cases he
     ·exact hno [c] (okL_cons.2 ⟨hc, fun _ h => by cases h⟩) (by simp; omega) (tells_cons.2 (.inl h1))
   refine ⟨fun hne => ?_, fun he u hu hul ht => ?_⟩
   ·obtain ⟨d, _, hd, e, hdn, hbef⟩ := fstC_some hne
    obtain ⟨t, e2, k1, k2, k3⟩ := hit1 d (by omega) hdn
    have hlen := hitC_length hdn
    rw [e]
    rw [e2] at hlen ⊢
    refine ⟨k1, k2, by omega, fun u hu ht => ?_⟩
    rcases Nat.lt_trichotomy u.length (r + 1) with h3 | h3 | h3
    ·exact absurd ht (hno u hu (by omega))
    ·match u, hu, ht, h3 with
     | c :: u, hu, ht, h3 =>
      have hul : u.length = r := by simpa using h3
      have hc := (okL_cons.1 hu).1
      rcases Nat.lt_trichotomy c d with h4 | h4 | h4
      ·exact absurd ht (hit2 c hc (hbef c (Nat.zero_le _) h4) u hu hul)
      ·subst h4
       exact k3 u hu ht hul
      ·exact .inl (.inr ⟨by rw [hlen, h3], .inl h4⟩)
    ·exact .inl (.inl (by omega))
   ·rcases Nat.lt_or_ge u.length (r + 1) with h3 | h3
    ·exact hno u hu (by omega) ht
    ·match u, hu, ht, hul, h3 with
     | c :: u, hu, ht, hul, h3 =>
      have hc := (okL_cons.1 hu).1
      exact hit2 c hc (fstC_nil he c (Nat.zero_le _) (by omega)) u hu (by simp at hul h3; omega) ht
  ·rw [dF_old h]
   obtain ⟨k1, k2, k3, k4⟩ := (ih i j hi hj).yes h
   exact ⟨fun _ => ⟨k1, k2, by omega, k4⟩, fun e => absurd e h⟩
theorem differ_states {v w : Vers} {k i j : Nat} (hv : VersOk v k) (hw : VersOk w k) (hi : i < v.length) (hj : j < w.length) {l : List Nat} (hl : OkL k l) (hd : Tells v w i j l) : ∃ l', OkL k l' ∧ l'.length < v.length + w.length ∧ Tells v w i j l' := by
 have memv : ∀ s, s < v.length → (v, s) ∈ (List.range v.length).map (fun s => (v, s)) ++ (List.range w.length).map (fun s => (w, s)) := fun s hs => by
  simp only [List.mem_append, List.mem_map, List.mem_range]
  exact .inl ⟨s, hs, rfl⟩
 have memw : ∀ s, s < w.length → (w, s) ∈ (List.range v.length).map (fun s => (v, s)) ++ (List.range w.length).map (fun s => (w, s)) := fun s hs => by
  simp only [List.mem_append, List.mem_map, List.mem_range]
  exact .inr ⟨s, hs, rfl⟩
 obtain ⟨l', h1, h2, h3⟩ := differ_soon (step := vStep) (out := vOut) (k := k) (Q := (List.range v.length).map (fun s => (v, s)) ++ (List.range w.length).map (fun s => (w, s))) (e := (v, i)) (f := (w, j)) (fun e he c hc => by
  simp only [List.mem_append, List.mem_map, List.mem_range] at he
  rcases he with ⟨s, hs, rfl⟩ | ⟨s, hs, rfl⟩
  ·obtain ⟨_, _, _, h3, _⟩ := mv_at hv hs hc
   exact memv _ h3
  ·obtain ⟨_, _, _, h3, _⟩ := mv_at hw hs hc
   exact memw _ h3) (memv i hi) (memw j hj) hl (by rw [tr_plays, tr_plays]; exact hd)
 rw [tr_plays, tr_plays] at h3
 rw [List.length_append, List.length_map, List.length_map, List.length_range, List.length_range] at h2
 exact ⟨l', h1, h2, h3⟩
def dT (v w : Vers) (K i j : Nat) : List Nat := dF v w K (v.length * w.length) i j
theorem rounds_enough {n m : Nat} (hn : 0 < n) (hm : 0 < m) : n + m ≤ n * m + 1 := by
 obtain ⟨a, rfl⟩ : ∃ a, n = a + 1 := ⟨n - 1, by omega⟩
 obtain ⟨b, rfl⟩ : ∃ b, m = b + 1 := ⟨m - 1, by omega⟩
 rw [Nat.add_mul, Nat.mul_add]
 have := Nat.zero_le (a * b)
 omega
theorem dT_ok {v w : Vers} {K i j : Nat} (hv : VersOk v K) (hw : VersOk w K) (hi : i < v.length) (hj : j < w.length) :
  (dT v w K i j ≠ [] → OkL K (dT v w K i j) ∧ Tells v w i j (dT v w K i j) ∧ ∀ u, OkL K u → Tells v w i j u → LE (dT v w K i j) u) ∧ (dT v w K i j = [] → ∀ u, OkL K u → ¬ Tells v w i j u) := by
 obtain ⟨h1, h2⟩ := dF_ok hv hw (v.length * w.length) i j hi hj
 refine ⟨fun h => ?_, fun h u hu ht => ?_⟩
 ·obtain ⟨k1, k2, _, k4⟩ := h1 h
  exact ⟨k1, k2, k4⟩
 ·obtain ⟨l', k1, k2, k3⟩ := differ_states hv hw hi hj hu ht
  have := rounds_enough (n := v.length) (m := w.length) (by omega) (by omega)
  exact h2 h l' k1 (by omega) k3
end Go.Vm

namespace Go.Vm
open Go.Proofs
theorem index_hsl {P : Program} {t : TypeId} {elem n id off len cap : Nat} {k : IntKind} {i : Int} (hu : P.underlying t = some (.slice elem)) (hs : tsz P elem = some n) (h : 0 ≤ i ∧ i < len) : indexOp P t (.hsl id off len cap) (.lit (.int k i)) = some (.ptr id (off + i.toNat * n)) := by
 simp only [indexOp, hu, hs]
 rw [if_pos h]
theorem load_ptr {P : Program} {g : Nat → Option Blk} {t : TypeId} {id off : Nat} {cells : List AV} {bt : TypeId} {v : AV} (hg : g id = some (.box cells bt)) (h : loadA P t (cells.drop off) = some v) : loadT P g t (.ptr id off) = some v := by
 unfold loadT
 simp only [hg]
 exact h
theorem store_ptr {P : Program} {g : Nat → Option Blk} {t : TypeId} {id off : Nat} {cells cells' : List AV} {bt : TypeId} {v : AV} (hg : g id = some (.box cells bt)) (hs : tsz P t = some 1) (ho : off < cells.length) (h1 : v.cellsOf = [v]) (h2 : AV.one v = true) (h3 : cells.take off ++ [v] ++ cells.drop (off + 1) = cells') :
  storeT P g t (.ptr id off) v = some (.set id (.box cells' bt)) := by
 subst h3
 unfold storeT
 simp only [hg, hs, h1]
 rw [if_pos ⟨rfl, ho, by simp [h2]⟩]
 rfl
def cellsR (m : Nat) (f : Nat → AV) : List AV := (List.range m).map f
theorem cellsR_length (m : Nat) (f : Nat → AV) : (cellsR m f).length = m := by unfold cellsR; simp
theorem cellsR_drop {m y : Nat} {f : Nat → AV} (h : y < m) : ∃ l, (cellsR m f).drop y = f y :: l := by
 have hl : y < (cellsR m f).length := by rw [cellsR_length]; exact h
 refine ⟨(cellsR m f).drop (y + 1), ?_⟩
 rw [List.drop_eq_getElem_cons hl]
 simp [cellsR]
theorem cellsR_set {m j : Nat} {f f' : Nat → AV} {x : AV} (hj : j < m) (h1 : f' j = x) (h2 : ∀ y, y ≠ j → f' y = f y) : (cellsR m f).take j ++ [x] ++ (cellsR m f).drop (j + 1) = cellsR m f' := by
 apply List.ext_getElem?
 intro y
 unfold cellsR
 rcases Nat.lt_trichotomy y j with h | h | h
 ·rw [List.append_assoc, List.getElem?_append_left (by simp; omega), List.getElem?_take_of_lt h]
  simp only [List.getElem?_map]
  rcases Nat.lt_or_ge y m with hm | hm
  ·rw [List.getElem?_range hm]
   simp [h2 y (by omega)]
  ·omega
 ·subst h
  rw [List.append_assoc, List.getElem?_append_right (by simp; omega)]
  have e : y - (((List.range m).map f).take y).length = 0 := by simp; omega
  rw [e, List.getElem?_map, List.getElem?_range hj]
  simp [h1]
 ·rw [List.getElem?_append_right (by simp; omega)]
  have e : (((List.range m).map f).take j ++ [x]).length = j + 1 := by simp; omega
  rw [e, List.getElem?_drop, show j + 1 + (y - (j + 1)) = y by omega]
  simp only [List.getElem?_map]
  rcases Nat.lt_or_ge y m with hm | hm
  ·rw [List.getElem?_range hm]
   simp [h2 y (by omega)]
  ·rw [List.getElem?_eq_none (by simpa using hm)]
   rfl
def eCell (l : List Nat) : AV := match l with
 | [] => .lit (.slice none 0 0)
 | c :: l => cuesA (c :: l)
theorem eCell_cells (l : List Nat) : (eCell l).cellsOf = [eCell l] := by cases l <;> rfl
theorem eCell_one (l : List Nat) : AV.one (eCell l) = true := by cases l <;> rfl
theorem under_eCell (n : Nat) (l : List Nat) : (eCell l).under n := by
 cases l with
 | nil => trivial
 | cons c l => exact under_cuesA n _
def mixT (v w : Vers) (K r i j : Nat) (x y : Nat) : List Nat := if x < i ∨ x = i ∧ y < j then dF v w K (r + 1) x y else dF v w K r x y
theorem mixT_or {v w : Vers} {K r i j : Nat} (x y : Nat) : mixT v w K r i j x y = dF v w K r x y ∨ mixT v w K r i j x y = dF v w K (r + 1) x y := by
 unfold mixT
 by_cases h : x < i ∨ x = i ∧ y < j
 ·rw [if_pos h]; exact .inr rfl
 ·rw [if_neg h]; exact .inl rfl
theorem mixT_here {v w : Vers} {K r i j : Nat} : mixT v w K r i j i j = dF v w K r i j := if_neg (by omega)
theorem mixT_next {v w : Vers} {K r i j : Nat} : mixT v w K r i (j + 1) i j = dF v w K (r + 1) i j := if_pos (by omega)
theorem mixT_other {v w : Vers} {K r i j x y : Nat} (h : ¬ (x = i ∧ y = j)) : mixT v w K r i (j + 1) x y = mixT v w K r i j x y := by
 unfold mixT
 by_cases h1 : x < i ∨ x = i ∧ y < j
 ·rw [if_pos h1, if_pos (by omega)]
 ·rw [if_neg h1, if_neg (by omega)]
theorem mixT_keep {v w : Vers} {K r i j x y : Nat} (h : dF v w K r i j ≠ []) : mixT v w K r i (j + 1) x y = mixT v w K r i j x y := by
 by_cases e : x = i ∧ y = j
 ·obtain ⟨rfl, rfl⟩ := e
  rw [mixT_next, mixT_here, dF_old h]
 ·exact mixT_other e
theorem mixT_length {v w : Vers} {K r i j x y : Nat} (hr : r + 1 ≤ 1000) (hv : VersOk v K) (hw : VersOk w K) (hx : x < v.length) (hy : y < w.length) : (mixT v w K r i j x y).length ≤ 1000 := by
 have key : ∀ q, q ≤ 1000 → (dF v w K q x y).length ≤ 1000 := fun q hq => by
  by_cases h : dF v w K q x y = []
  ·rw [h]; simp
  ·have := ((dF_ok hv hw q x y hx hy).yes h).2.2.1
   omega
 rcases mixT_or (v := v) (w := w) (K := K) (r := r) (i := i) (j := j) x y with h | h
 ·rw [h]; exact key r (by omega)
 ·rw [h]; exact key (r + 1) hr
theorem mixT_row {v w : Vers} {K r i m x y : Nat} (hy : y < m) : mixT v w K r i m x y = mixT v w K r (i + 1) 0 x y := by
 unfold mixT
 by_cases h1 : x < i ∨ x = i ∧ y < m
 ·rw [if_pos h1, if_pos (by omega)]
 ·rw [if_neg h1, if_neg (by omega)]
theorem mixT_start {v w : Vers} {K r x y : Nat} : mixT v w K r 0 0 x y = dF v w K r x y := if_neg (by omega)
theorem mixT_end {v w : Vers} {K r n x y : Nat} (h : x < n) : mixT v w K r n 0 x y = dF v w K (r + 1) x y := if_pos (.inl h)
end Go.Vm

namespace Go.Vm
open Go.Proofs
def Frz (g : Nat → Option Blk) (a v : AV) : Prop := ∀ (_ : Outer) (S : Sit), Rel S → (∀ id B, g id = some B → S.H[id]? = some B) → ∀ c, VRel S a c → VRel ⟨S.H.take 0, cutι S.ι 0, S.w⟩ v c
def FrzL (g : Nat → Option Blk) (xs vs : List AV) : Prop := ∀ (_ : Outer) (S : Sit), Rel S → (∀ id B, g id = some B → S.H[id]? = some B) → ∀ cs, VRels S xs cs → VRels ⟨S.H.take 0, cutι S.ι 0, S.w⟩ vs cs
theorem Frz.keep {g : Nat → Option Blk} {a : AV} (h : a.under 0) : Frz g a a := fun _ _ _ _ c x => VRel.cut a c h x
theorem FrzL.nil (g : Nat → Option Blk) : FrzL g [] [] := fun _ _ _ _ cs x => by
 cases cs with
 | nil => simp [VRels]
 | cons _ _ => simp [VRels] at x
theorem FrzL.cons {g : Nat → Option Blk} {a v : AV} {xs vs : List AV} (h : Frz g a v) (hs : FrzL g xs vs) : FrzL g (a :: xs) (v :: vs) := fun O S hR hg cs x => by
 cases cs with
 | nil => simp [VRels] at x
 | cons c cs =>
  simp only [VRels] at x ⊢
  exact ⟨h O S hR hg c x.1, hs O S hR hg cs x.2⟩
theorem FrzL.map {g : Nat → Option Blk} {f f' : Nat → AV} : ∀ {l : List Nat}, (∀ x ∈ l, Frz g (f x) (f' x)) → FrzL g (l.map f) (l.map f')
 | [], _ => FrzL.nil g
 | _ :: l, h => FrzL.cons (h _ (by simp)) (FrzL.map (l := l) fun x hx => h x (by simp [hx]))
theorem FrzL.cells {g : Nat → Option Blk} {n : Nat} {f f' : Nat → AV} (h : ∀ x, x < n → Frz g (f x) (f' x)) : FrzL g (cellsR n f) (cellsR n f') := FrzL.map fun x hx => h x (List.mem_range.1 hx)
theorem Frz.hsl {g : Nat → Option Blk} {id len : Nat} {cells cells' : List AV} {bt : TypeId} (hg : g id = some (.box cells bt)) (hl : cells.length = len) (hl' : cells'.length = len) (h : FrzL g cells cells') : Frz g (.hsl id 0 len len) (.sl len cells' .unk) := fun O S hR hS c x => by
 simp only [VRel] at x ⊢
 obtain ⟨b, wm, hi, _, hc⟩ := x
 refine ⟨_, len, hc, Nat.le_refl _, .inr ⟨b, 0, rfl, ?_, ?_⟩, trivial⟩
 ·obtain ⟨B, hB, hrel⟩ := hR.blk id b wm hi
  rw [hS _ _ hg] at hB; cases hB
  obtain ⟨C, hC, hcells⟩ := hrel
  have hlen := hcells.length
  refine ⟨C, bt, (0, 0), hC, by simp at hlen; omega, fun id wm e => by simp [cutι] at e, fun y hy => ?_⟩
  exact absurd hi ((hR.out b y hy).2 id wm)
 ·obtain ⟨B, hB, hrel⟩ := hR.blk id b wm hi
  rw [hS _ _ hg] at hB; cases hB
  obtain ⟨C, hC, hcells⟩ := hrel
  refine VRow.of_vals b (h O S hR hS _ hcells) fun i v hv => ?_
  rw [cell_eq]
  show (match S.w.heap[b]? with | some (.cells c _ _) => c[0 + i]? | _ => none) = _
  rw [hC]
  simpa using hv
theorem fn_ruleH {P : Program} {m : Bool} {f : FuncId} {fn : Func} {c : Code} {args : List AV} {v : AV} (hm : P.follows .mixedOrders = true) (hf : P.funcs[f]? = some fn) (hb : fn.body = some c) (hn : args.length ≤ fn.ntmps)
  (ha : AV.unders 0 args) (hv : v.under 0)
  (h : gCode P m fn.ntmps none c (initVars 0 args) .nil 0 [] noLo fun x e _ => (x = .ret ∨ x = .normal) ∧ e.defs = [] ∧ ∃ vs, resT P (get e.t) e.vars fn.results.toList = some vs ∧ Frz (get e.t) (resV vs) v) (H : List Blk) : ACall P f args H (.ret v) H := by
 obtain ⟨x, e, lo, H', hH', hk', hrun, hx, hd, vs, hres, hfr⟩ := gCode_spec hm c _ _ _ _ _ _ h [] [] HT.nil (Keep.refl _ _)
 have hcr : ACall P f args [] (.ret (resV vs)) H' := by
  rw [hd] at hrun
  exact ACall.intro_marks hf hb hn hrun hx List.nodup_nil (resT_sound hH' hres)
 have h1 : ACall P f args [] (.ret v) [] := by
  intro O ι w cs hR hargs
  refine (hcr O ι w cs hR hargs).mono ?_
  rintro e w' ⟨ι', hend, hR', hev, hnon⟩
  cases e with
  | panicked chain => exact hend.elim
  | outgrown => exact hend.elim
  | returned c =>
   have hev2 := hev.cut
   have hnon2 := hnon.cut
   refine ⟨cutι ι' 0, hfr O ⟨H', ι', w'⟩ hR' hH'.blk c hend, ⟨fun id b wm e => by simp [cutι] at e, fun i j b wm wm' ei _ => by simp [cutι] at ei, fun b x e => ⟨(hR'.out b x e).1, fun i wm h => by simp [cutι] at h⟩⟩, hev2, hnon2⟩
 exact ACall.frame_nil (r := .ret v) h1 ha hv H
theorem ACall.backU {P : Program} {f : FuncId} {args : List AV} {H H' : List Blk} {v : AV} {lo : Nat} (h : ACall P f args H (.ret v) H') (hk : Keep H H' lo) (hlo : H.length ≤ lo) (hv : v.under H.length) : ACall P f args H (.ret v) H := by
 intro O ι w cs hR hargs
 have e : H'.take H.length = H := by
  refine List.ext_getElem? fun i => ?_
  by_cases hi : i < H.length
  ·rw [List.getElem?_take_of_lt hi]; exact hk.low i (by omega) hi
  ·rw [List.getElem?_eq_none (by rw [List.length_take]; omega), List.getElem?_eq_none (by omega)]
 refine (h O ι w cs hR hargs).mono ?_
 rintro e' w' ⟨ι', hend, hR', hev, hnon⟩
 cases e' with
 | panicked chain => exact hend.elim
 | outgrown => exact hend.elim
 | returned c =>
  have h1 := Rel.back hR hR' hev hnon (fun id hlt => .inl (hk.low id (Nat.lt_of_lt_of_le hlt hlo) hlt))
  have h2 := hev.cut (S := ⟨H, ι, w⟩)
  have h3 := hnon.cut (S := ⟨H, ι, w⟩)
  have h4 := VRel.cut (S := ⟨H', ι', w'⟩) (n := H.length) v c hv hend
  simp only [e] at h1 h2 h3 h4
  exact ⟨cutι ι' H.length, h4, h1, h2, h3⟩
theorem fn_atW {P : Program} {m : Bool} {f : FuncId} {fn : Func} {c : Code} {args : List AV} {v : AV} {t0 : Trie Blk} {n0 : Nat} (hm : P.follows .mixedOrders = true) (hf : P.funcs[f]? = some fn) (hb : fn.body = some c) (hn : args.length ≤ fn.ntmps)
  (hv : v.under n0)
  (h : gCode P m fn.ntmps none c (initVars 0 args) t0 n0 [] noLo fun x e lo => (x = .ret ∨ x = .normal) ∧ n0 ≤ lo ∧ e.defs = [] ∧ ∃ vs, resT P (get e.t) e.vars fn.results.toList = some vs ∧ ∀ H, WeakH H (resV vs) v) (H : List Blk) (hH : HT t0 n0 H) : ACall P f args H (.ret v) H := by
 obtain ⟨x, e, lo, H', hH', hk', hrun, hx, hlo, hd, vs, hres, hw⟩ := gCode_spec hm c _ _ _ _ _ _ h H H hH (Keep.refl _ _)
 have hcr : ACall P f args H (.ret (resV vs)) H' := by
  rw [hd] at hrun
  exact ACall.intro_marks hf hb hn hrun hx List.nodup_nil (resT_sound hH' hres)
 exact (hcr.weakRet' hw).backU hk' (by rw [hH.len]; exact hlo) (by rw [hH.len]; exact hv)
theorem NowR.of {α : Type} {x : Option α} {K : α → Prop} {r : α} (h : x = some r) (k : K r) : NowR x K := by
 subst h
 exact k
theorem zeros_cells (x : Value) : ∀ k, (zeros [x] k).map AV.lit = cellsR k fun _ => .lit x := fun k => by
 have e : zeros [x] k = List.replicate k x := by
  induction k with
  | zero => rfl
  | succ k ih =>
   show [x] ++ zeros [x] k = _
   rw [ih]; rfl
 rw [e, List.map_replicate]
 unfold cellsR
 rw [List.map_const', List.length_range]
theorem aop_makeSlice {P : Program} {m : Bool} {g : Nat → Option Blk} {n : Nat} {ρ : Operand → Option AV} {o : Oper} {t e : TypeId} {l c : Operand} {k bytes : Nat} {a : Int} {z x : Value} (ho : o.op = .makeSlice t l c) (hl : ρ l = some (n' a)) (hc : ρ c = some (n' a)) (ha : a = k) (hk : k ≤ 65536)
  (h1 : tslice P t = some e) (h2 : tsz P e = some 1) (h3 : tz P e = some z) (h4 : tbytes P e = some bytes) (h5 : z.cells = #[x]) (h6 : bytes ≤ 65536) :
  aopF P m g n ρ o = some (.val (.hsl n 0 k k) (.push (.box (cellsR k fun _ => .lit x) e))) := by
 subst ha
 rw [aopF_fun]
 obtain ⟨dst, op, ty, pos, after, guard⟩ := o
 simp only at ho
 subst ho
 have hm : makeSliceA P t (n' (k : Int)) (n' (k : Int)) = some (k, k, e, (zeros [x] k).map .lit) := by
  simp only [makeSliceA, n', h1, h2, h3, h4, h5]
  rw [if_pos ⟨rfl, by omega, by omega, by omega, by omega, h6⟩, Int.toNat_natCast]
 simp only [aopT, hl, hc, hm, Option.map_some, zeros_cells]
theorem aop_indexH {P : Program} {m : Bool} {g : Nat → Option Blk} {n : Nat} {ρ : Operand → Option AV} {o : Oper} {t elem : TypeId} {x i : Operand} {id off len cap sz r : Nat} {a : Int} (ho : o.op = .indexAddr t x i) (hx : ρ x = some (.hsl id off len cap)) (hi : ρ i = some (n' a)) (ha : a = r) (hr : r < len)
  (hu : P.underlying t = some (.slice elem)) (hs : tsz P elem = some sz) : aopF P m g n ρ o = some (.val (.ptr id (off + r * sz)) .same) := by
 subst ha
 obtain ⟨dst, op, ty, pos, after, guard⟩ := o
 simp only at ho
 subst ho
 have h := index_hsl (P := P) (t := t) (id := id) (off := off) (len := len) (cap := cap) (k := .i64) (i := (r : Int)) hu hs ⟨by omega, by omega⟩
 rw [Int.toNat_natCast] at h
 show sameR (onAV (fun a => onAV (fun b => indexOp P t a b) (ρ i)) (ρ x)) = _
 rw [hx, hi]
 show sameR (indexOp P t (.hsl id off len cap) (.lit (.int .i64 r))) = _
 rw [h]
 rfl
theorem aop_loadP {P : Program} {m : Bool} {g : Nat → Option Blk} {n : Nat} {ρ : Operand → Option AV} {o : Oper} {t bt : TypeId} {x : Operand} {id off : Nat} {cells : List AV} {v : AV} (ho : o.op = .load t x) (hx : ρ x = some (.ptr id off)) (hg : g id = some (.box cells bt)) (h : loadA P t (cells.drop off) = some v) :
  aopF P m g n ρ o = some (.val v .same) := by
 obtain ⟨dst, op, ty, pos, after, guard⟩ := o
 simp only at ho
 subst ho
 show sameR (onAV (fun a => loadT P g t a) (ρ x)) = _
 rw [hx]
 show sameR (loadT P g t (.ptr id off)) = _
 rw [load_ptr hg h]
 rfl
theorem aop_stP {P : Program} {m : Bool} {g : Nat → Option Blk} {n : Nat} {ρ : Operand → Option AV} {o : Oper} {t : TypeId} {x y : Operand} {a u : AV} {d : Dl} (ho : o.op = .store t x y) (hx : ρ x = some a) (hy : ρ y = some u) (h : storeT P g t a u = some d) :
  aopF P m g n ρ o = some (.val (.lit undef) d) := by
 rw [aopF_fun]
 obtain ⟨dst, op, ty, pos, after, guard⟩ := o
 simp only at ho
 subst ho
 simp only [aopT, hx, hy, h]
 rfl
set_option maxRecDepth 100000 in
theorem load_cell {m y : Nat} {f : Nat → AV} {v : AV} (h : y < m) (e : f y = v) : loadA Tryz.prog 25 ((cellsR m f).drop (0 + y * 1)) = some v := by
 obtain ⟨l, hl⟩ := cellsR_drop (f := f) h
 rw [Nat.zero_add, Nat.mul_one, hl, e]
 rfl
theorem fstC_hit {h : Nat → List Nat} {K c : Nat} (hc : c < K) (hb : ∀ d, d < c → h d = []) (hn : h c ≠ []) : fstC h K 0 = h c := by
 by_cases e : fstC h K 0 = []
 ·exact absurd (fstC_nil e c (Nat.zero_le _) (by omega)) hn
 ·obtain ⟨d, _, h2, h3, h4, h5⟩ := fstC_some e
  rcases Nat.lt_trichotomy c d with h6 | h6 | h6
  ·exact absurd (h5 c (Nat.zero_le _) h6) hn
  ·rw [h3, h6]
  ·exact absurd (hb d h6) h4
theorem fstC_none {h : Nat → List Nat} {K : Nat} (hb : ∀ d, d < K → h d = []) : fstC h K 0 = [] := by
 apply Classical.byContradiction
 intro e
 obtain ⟨d, _, h2, _, h4, _⟩ := fstC_some e
 exact h4 (hb d (by omega))
def rowB (m : Nat) (f : Nat → List Nat) : Blk := .box (cellsR m fun y => eCell (f y)) 25
def tabL (n m : Nat) (M : Nat → Nat → List Nat) : List (Nat × Blk) := (3, .box (cellsR n fun x => .hsl (4 + x) 0 m m) 48) :: (List.range n).map fun x => (4 + x, rowB m (M x))
theorem cellsR_congr {n : Nat} {f f' : Nat → AV} (h : ∀ x, x < n → f x = f' x) : cellsR n f = cellsR n f' := List.map_congr_left fun x hx => h x (List.mem_range.1 hx)
theorem rowB_congr {m : Nat} {f f' : Nat → List Nat} (h : ∀ y, y < m → f y = f' y) : rowB m f = rowB m f' := by
 unfold rowB
 rw [cellsR_congr fun y hy => by rw [h y hy]]
def eTab (v w : Vers) (K : Nat) : AV := .sl v.length (cellsR v.length fun x => .sl w.length (cellsR w.length fun y => eCell (dT v w K x y)) .unk) .unk
theorem under_cellsR {k n : Nat} {f : Nat → AV} (h : ∀ x, (f x).under k) : AV.unders k (cellsR n f) := unders_map h _
theorem under_eTab (n : Nat) (v w : Vers) (K : Nat) : (eTab v w K).under n := ⟨under_cellsR fun _ => ⟨under_cellsR fun _ => under_eCell n _, trivial⟩, trivial⟩
theorem jx_cells {P : Program} {t elem n r : Nat} {f : Nat → AV} {tl : Tail} {i : Int} (hi : i = r) (h : r < n) (hu : P.underlying t = some (.slice elem)) (hs : tsz P elem = some 1) : indexOp P t (.sl n (cellsR n f) tl) (.lit (.int .i64 i)) = some (.eptr [f r]) := by
 subst hi
 obtain ⟨l, e⟩ := cellsR_drop (f := f) h
 simp only [indexOp, hu, hs]
 rw [if_pos ⟨by omega, by omega, by rw [cellsR_length, Int.toNat_natCast]; omega, by omega⟩, Int.toNat_natCast, Nat.mul_one, e]
 rfl
end Go.Vm

namespace Go.Vm
open Go.Proofs
theorem wk_nilCell (H : List Blk) : WeakH H (.lit (.slice none 0 0)) (eCell []) := WeakH.refl _ H
theorem wk_consD {a : Int} {l : List Int} {tl : Tail} (H : List Blk) : WeakH H (.sl (1 + l.length) ([n' a] ++ l.map n') tl) (eInts (a :: l)) := by
 have e : eInts (a :: l) = .sl (1 + l.length) ([n' a] ++ l.map n') .unk := by
  unfold eInts
  rw [List.length_cons, Nat.add_comm, List.map_cons]; rfl
 rw [e]
 exact WeakH.tail _ _ _ H
theorem wk_oneCell {c : Nat} {tl : Tail} (H : List Blk) : WeakH H (.sl 1 [n' (c : Int)] tl) (eCell [c]) := WeakH.tail 1 [n' (c : Int)] _ H
set_option maxHeartbeats 4000000 in
set_option maxRecDepth 100000 in
theorem c_first165 {v w : Vers} {K n i j : Nat} (hv : VersOk v K) (hw : VersOk w K) (hK : K ≤ 4) (hn : n = 1 ∨ n = 2 ∨ n = 3 ∨ n = 4) (hvn : v.length = n) (hi : i < v.length) (hj : j < w.length) {s t : List Move} (hs : v[i]? = some s) (ht : w[j]? = some t)
    (M : Nat → Nat → List Nat) (hM : ∀ x y, x < v.length → y < w.length → (M x y).length ≤ 1000) (r : Nat) (hr : r ≤ 1000) (H : List Blk) (hH : HT (ofL (tabL n w.length M)) (24 + n) H) :
    ACall Tryz.prog 165 [eState s, eState t, .hsl 3 0 n n, n' (r + 1 : Nat)] H (.ret (eCell (fstC (hitC v w M (r + 1) i j) K 0))) H := by
  have hsl : s.length = K := (hv s (List.mem_of_getElem? hs)).1
  rcases hn with rfl | rfl | rfl | rfl
  · refine fn_atW (m := false) (fn := Tryz.f165) (c := (Tryz.f165.body).getD .skip) mixed (by kernel_rfl) (by kernel_rfl) (of_decide_eq_true (by kernel_rfl)) (under_eCell _ _) ?_ H hH
    refine loop_up mixed (m := false) (fun c => [(0, eState s), (1, eState t), (2, .hsl 3 0 1 1), (3, n' (r + 1 : Nat)), (9, n' c)]) (fun _ => tabL 1 w.length M) (fun c => ∀ d, d < c → hitC v w M (r + 1) i j d = []) K 25 (leb rfl) (fun _ h => by omega) ?_ ?_ ?_
    · exact ⟨⟨_, rfl, Weak.refl _ _, under_state _ _⟩, ⟨_, rfl, Weak.refl _ _, under_state _ _⟩, wp rfl (ltb rfl), wp rfl trivial, wp rfl trivial, trivial⟩
    · exact ⟨bk rfl rfl, bk rfl rfl, trivial⟩
    · intro c hc hI
      refine If.mk (fun h1 => ?_) (fun h1 => ?_)
      · refine ifY ?_
        obtain ⟨s', g1, g2, g3, g4⟩ := mv_at hv hi (c := c) (by omega)
        rw [hs] at g1
        obtain rfl := Option.some.inj g1
        obtain ⟨t', k1, k2, k3, k4⟩ := mv_at hw hj (c := c) (by omega)
        rw [ht] at k1
        obtain rfl := Option.some.inj k1
        have hh : hitC v w M (r + 1) i j c = if (mv v i c).2 = (mv w j c).2 then
            (if 0 < (M (mv v i c).1.toNat (mv w j c).1.toNat).length ∧ (M (mv v i c).1.toNat (mv w j c).1.toNat).length + 1 = r + 1 then c :: M (mv v i c).1.toNat (mv w j c).1.toNat else [])
          else (if r + 1 = 1 then [c] else []) := rfl
        have hMl := hM (mv v i c).1.toNat (mv w j c).1.toNat g3 k3
        generalize mv v i c = p at hh hMl g2 g3 g4
        generalize mv w j c = q at hh hMl k2 k3 k4
        obtain ⟨p1, p2⟩ := p
        obtain ⟨q1, q2⟩ := q
        simp only at hh hMl g2 g3 g4 k2 k3 k4
        refine Ex.mk _ (jx_moves (r := c) rfl g2) ?_
        refine Ex.mk _ rfl ?_
        refine Ex.mk _ (jx_moves (r := c) rfl k2) ?_
        refine Ex.mk _ rfl ?_
        refine If.mk (fun h3 => ?_) (fun h3 => ?_)
        · refine ifN ?_
          rw [if_pos h3] at hh
          generalize hD : M p1.toNat q1.toNat = D at hh hMl
          refine Ex.mk _ (jx_moves (r := c) rfl g2) ?_
          refine Ex.mk _ rfl ?_
          have hp : p1 = 0 ∨ p1 = 1 ∨ p1 = 2 ∨ p1 = 3 := by omega
          have hp0 : 0 ≤ p1 ∧ p1 < 1 := by omega
          rcases hp with rfl | rfl | rfl | rfl <;> first | (exfalso; omega) | skip
          all_goals
            refine Ex.mk _ (jx_moves (r := c) rfl k2) ?_
            refine Ex.mk _ rfl ?_
            refine NowR.of (aop_indexH (elem := 25) (sz := 1) (r := q1.toNat) rfl rfl rfl k4.symm k3 (by kernel_rfl) (by kernel_rfl)) ?_
            cases D with
            | nil =>
              refine NowR.of (aop_loadP rfl rfl rfl (load_cell (v := eCell []) k3 (congrArg eCell hD))) ?_
              rw [if_neg (by simp)] at hh
              refine If.mk (fun h => absurd h (by decide)) (fun _ => ?_)
              refine ifN ?_
              refine Side.mk (fits64 (by omega)) ?_
              refine ⟨leb rfl, rfl, by omega, fun d hd => ?_, ⟨⟨_, rfl, Weak.refl _ _, under_state _ _⟩, ⟨_, rfl, Weak.refl _ _, under_state _ _⟩, wp rfl (ltb rfl), wp rfl trivial, wp rfl trivial, trivial⟩, ⟨bk rfl rfl, bk rfl rfl, trivial⟩, trivial⟩
              rcases Nat.lt_or_ge d c with h6 | h6
              · exact hI d h6
              · obtain rfl : d = c := by omega
                exact hh
            | cons d l =>
              refine NowR.of (aop_loadP rfl rfl rfl (load_cell (v := eCell (d :: l)) k3 (congrArg eCell hD))) ?_
              have hcl := cuesI_length (d :: l)
              refine If.mk (fun _ => ?_) (fun h => absurd (by simp [cuesI]) h)
              refine Side.mk (fits64 (by omega)) ?_
              refine If.mk (fun h5 => ?_) (fun h5 => ?_)
              · rw [if_pos ⟨by simp, by omega⟩] at hh
                have hfc := fstC_hit (K := K) (c := c) (by omega) hI (by rw [hh]; simp)
                refine ifY ?_
                refine ex_app _ _ (app_cons (l := cuesI (d :: l)) (by simp [cuesI]) (by omega)) ?_
                refine ⟨leb rfl, .inl rfl, leb rfl, rfl, _, rfl, fun H => ?_⟩
                rw [hfc, hh]
                exact wk_consD H
              · refine ifN ?_
                rw [if_neg (fun h => h5 (by omega))] at hh
                refine Side.mk (fits64 (by omega)) ?_
                refine ⟨leb rfl, rfl, by omega, fun d hd => ?_, ⟨⟨_, rfl, Weak.refl _ _, under_state _ _⟩, ⟨_, rfl, Weak.refl _ _, under_state _ _⟩, wp rfl (ltb rfl), wp rfl trivial, wp rfl trivial, trivial⟩, ⟨bk rfl rfl, bk rfl rfl, trivial⟩, trivial⟩
                rcases Nat.lt_or_ge d c with h6 | h6
                · exact hI d h6
                · obtain rfl : d = c := by omega
                  exact hh
        · refine ifY ?_
          rw [if_neg h3] at hh
          refine If.mk (fun h4 => ?_) (fun h4 => ?_)
          · rw [if_pos (by omega)] at hh
            have hfc := fstC_hit (K := K) (c := c) (by omega) hI (by rw [hh]; simp)
            refine ifY ?_
            refine ⟨leb rfl, .inl rfl, leb rfl, rfl, _, rfl, fun H => ?_⟩
            rw [hfc, hh]
            exact wk_oneCell H
          · rw [if_neg (by omega)] at hh
            refine ifN ?_
            refine Side.mk (fits64 (by omega)) ?_
            refine ⟨leb rfl, rfl, by omega, fun d hd => ?_, ⟨⟨_, rfl, Weak.refl _ _, under_state _ _⟩, ⟨_, rfl, Weak.refl _ _, under_state _ _⟩, wp rfl (ltb rfl), wp rfl trivial, wp rfl trivial, trivial⟩, ⟨bk rfl rfl, bk rfl rfl, trivial⟩, trivial⟩
            rcases Nat.lt_or_ge d c with h6 | h6
            · exact hI d h6
            · obtain rfl : d = c := by omega
              exact hh
      · refine ifN ?_
        have ec : c = K := by omega
        subst ec
        have hfc := fstC_none hI
        refine ⟨leb rfl, .inl rfl, leb rfl, rfl, _, rfl, fun H => ?_⟩
        rw [hfc]
        exact wk_nilCell H
  · refine fn_atW (m := false) (fn := Tryz.f165) (c := (Tryz.f165.body).getD .skip) mixed (by kernel_rfl) (by kernel_rfl) (of_decide_eq_true (by kernel_rfl)) (under_eCell _ _) ?_ H hH
    refine loop_up mixed (m := false) (fun c => [(0, eState s), (1, eState t), (2, .hsl 3 0 2 2), (3, n' (r + 1 : Nat)), (9, n' c)]) (fun _ => tabL 2 w.length M) (fun c => ∀ d, d < c → hitC v w M (r + 1) i j d = []) K 26 (leb rfl) (fun _ h => by omega) ?_ ?_ ?_
    · exact ⟨⟨_, rfl, Weak.refl _ _, under_state _ _⟩, ⟨_, rfl, Weak.refl _ _, under_state _ _⟩, wp rfl (ltb rfl), wp rfl trivial, wp rfl trivial, trivial⟩
    · exact ⟨bk rfl rfl, bk rfl rfl, bk rfl rfl, trivial⟩
    · intro c hc hI
      refine If.mk (fun h1 => ?_) (fun h1 => ?_)
      · refine ifY ?_
        obtain ⟨s', g1, g2, g3, g4⟩ := mv_at hv hi (c := c) (by omega)
        rw [hs] at g1
        obtain rfl := Option.some.inj g1
        obtain ⟨t', k1, k2, k3, k4⟩ := mv_at hw hj (c := c) (by omega)
        rw [ht] at k1
        obtain rfl := Option.some.inj k1
        have hh : hitC v w M (r + 1) i j c = if (mv v i c).2 = (mv w j c).2 then
            (if 0 < (M (mv v i c).1.toNat (mv w j c).1.toNat).length ∧ (M (mv v i c).1.toNat (mv w j c).1.toNat).length + 1 = r + 1 then c :: M (mv v i c).1.toNat (mv w j c).1.toNat else [])
          else (if r + 1 = 1 then [c] else []) := rfl
        have hMl := hM (mv v i c).1.toNat (mv w j c).1.toNat g3 k3
        generalize mv v i c = p at hh hMl g2 g3 g4
        generalize mv w j c = q at hh hMl k2 k3 k4
        obtain ⟨p1, p2⟩ := p
        obtain ⟨q1, q2⟩ := q
        simp only at hh hMl g2 g3 g4 k2 k3 k4
        refine Ex.mk _ (jx_moves (r := c) rfl g2) ?_
        refine Ex.mk _ rfl ?_
        refine Ex.mk _ (jx_moves (r := c) rfl k2) ?_
        refine Ex.mk _ rfl ?_
        refine If.mk (fun h3 => ?_) (fun h3 => ?_)
        · refine ifN ?_
          rw [if_pos h3] at hh
          generalize hD : M p1.toNat q1.toNat = D at hh hMl
          refine Ex.mk _ (jx_moves (r := c) rfl g2) ?_
          refine Ex.mk _ rfl ?_
          have hp : p1 = 0 ∨ p1 = 1 ∨ p1 = 2 ∨ p1 = 3 := by omega
          have hp0 : 0 ≤ p1 ∧ p1 < 2 := by omega
          rcases hp with rfl | rfl | rfl | rfl <;> first | (exfalso; omega) | skip
          all_goals
            refine Ex.mk _ (jx_moves (r := c) rfl k2) ?_
            refine Ex.mk _ rfl ?_
            refine NowR.of (aop_indexH (elem := 25) (sz := 1) (r := q1.toNat) rfl rfl rfl k4.symm k3 (by kernel_rfl) (by kernel_rfl)) ?_
            cases D with
            | nil =>
              refine NowR.of (aop_loadP rfl rfl rfl (load_cell (v := eCell []) k3 (congrArg eCell hD))) ?_
              rw [if_neg (by simp)] at hh
              refine If.mk (fun h => absurd h (by decide)) (fun _ => ?_)
              refine ifN ?_
              refine Side.mk (fits64 (by omega)) ?_
              refine ⟨leb rfl, rfl, by omega, fun d hd => ?_, ⟨⟨_, rfl, Weak.refl _ _, under_state _ _⟩, ⟨_, rfl, Weak.refl _ _, under_state _ _⟩, wp rfl (ltb rfl), wp rfl trivial, wp rfl trivial, trivial⟩, ⟨bk rfl rfl, bk rfl rfl, bk rfl rfl, trivial⟩, trivial⟩
              rcases Nat.lt_or_ge d c with h6 | h6
              · exact hI d h6
              · obtain rfl : d = c := by omega
                exact hh
            | cons d l =>
              refine NowR.of (aop_loadP rfl rfl rfl (load_cell (v := eCell (d :: l)) k3 (congrArg eCell hD))) ?_
              have hcl := cuesI_length (d :: l)
              refine If.mk (fun _ => ?_) (fun h => absurd (by simp [cuesI]) h)
              refine Side.mk (fits64 (by omega)) ?_
              refine If.mk (fun h5 => ?_) (fun h5 => ?_)
              · rw [if_pos ⟨by simp, by omega⟩] at hh
                have hfc := fstC_hit (K := K) (c := c) (by omega) hI (by rw [hh]; simp)
                refine ifY ?_
                refine ex_app _ _ (app_cons (l := cuesI (d :: l)) (by simp [cuesI]) (by omega)) ?_
                refine ⟨leb rfl, .inl rfl, leb rfl, rfl, _, rfl, fun H => ?_⟩
                rw [hfc, hh]
                exact wk_consD H
              · refine ifN ?_
                rw [if_neg (fun h => h5 (by omega))] at hh
                refine Side.mk (fits64 (by omega)) ?_
                refine ⟨leb rfl, rfl, by omega, fun d hd => ?_, ⟨⟨_, rfl, Weak.refl _ _, under_state _ _⟩, ⟨_, rfl, Weak.refl _ _, under_state _ _⟩, wp rfl (ltb rfl), wp rfl trivial, wp rfl trivial, trivial⟩, ⟨bk rfl rfl, bk rfl rfl, bk rfl rfl, trivial⟩, trivial⟩
                rcases Nat.lt_or_ge d c with h6 | h6
                · exact hI d h6
                · obtain rfl : d = c := by omega
                  exact hh
        · refine ifY ?_
          rw [if_neg h3] at hh
          refine If.mk (fun h4 => ?_) (fun h4 => ?_)
          · rw [if_pos (by omega)] at hh
            have hfc := fstC_hit (K := K) (c := c) (by omega) hI (by rw [hh]; simp)
            refine ifY ?_
            refine ⟨leb rfl, .inl rfl, leb rfl, rfl, _, rfl, fun H => ?_⟩
            rw [hfc, hh]
            exact wk_oneCell H
          · rw [if_neg (by omega)] at hh
            refine ifN ?_
            refine Side.mk (fits64 (by omega)) ?_
            refine ⟨leb rfl, rfl, by omega, fun d hd => ?_, ⟨⟨_, rfl, Weak.refl _ _, under_state _ _⟩, ⟨_, rfl, Weak.refl _ _, under_state _ _⟩, wp rfl (ltb rfl), wp rfl trivial, wp rfl trivial, trivial⟩, ⟨bk rfl rfl, bk rfl rfl, bk rfl rfl, trivial⟩, trivial⟩
            rcases Nat.lt_or_ge d c with h6 | h6
            · exact hI d h6
            · obtain rfl : d = c := by omega
              exact hh
      · refine ifN ?_
        have ec : c = K := by omega
        subst ec
        have hfc := fstC_none hI
        refine ⟨leb rfl, .inl rfl, leb rfl, rfl, _, rfl, fun H => ?_⟩
        rw [hfc]
        exact wk_nilCell H
  · refine fn_atW (m := false) (fn := Tryz.f165) (c := (Tryz.f165.body).getD .skip) mixed (by kernel_rfl) (by kernel_rfl) (of_decide_eq_true (by kernel_rfl)) (under_eCell _ _) ?_ H hH
    refine loop_up mixed (m := false) (fun c => [(0, eState s), (1, eState t), (2, .hsl 3 0 3 3), (3, n' (r + 1 : Nat)), (9, n' c)]) (fun _ => tabL 3 w.length M) (fun c => ∀ d, d < c → hitC v w M (r + 1) i j d = []) K 27 (leb rfl) (fun _ h => by omega) ?_ ?_ ?_
    · exact ⟨⟨_, rfl, Weak.refl _ _, under_state _ _⟩, ⟨_, rfl, Weak.refl _ _, under_state _ _⟩, wp rfl (ltb rfl), wp rfl trivial, wp rfl trivial, trivial⟩
    · exact ⟨bk rfl rfl, bk rfl rfl, bk rfl rfl, bk rfl rfl, trivial⟩
    · intro c hc hI
      refine If.mk (fun h1 => ?_) (fun h1 => ?_)
      · refine ifY ?_
        obtain ⟨s', g1, g2, g3, g4⟩ := mv_at hv hi (c := c) (by omega)
        rw [hs] at g1
        obtain rfl := Option.some.inj g1
        obtain ⟨t', k1, k2, k3, k4⟩ := mv_at hw hj (c := c) (by omega)
        rw [ht] at k1
        obtain rfl := Option.some.inj k1
        have hh : hitC v w M (r + 1) i j c = if (mv v i c).2 = (mv w j c).2 then
            (if 0 < (M (mv v i c).1.toNat (mv w j c).1.toNat).length ∧ (M (mv v i c).1.toNat (mv w j c).1.toNat).length + 1 = r + 1 then c :: M (mv v i c).1.toNat (mv w j c).1.toNat else [])
          else (if r + 1 = 1 then [c] else []) := rfl
        have hMl := hM (mv v i c).1.toNat (mv w j c).1.toNat g3 k3
        generalize mv v i c = p at hh hMl g2 g3 g4
        generalize mv w j c = q at hh hMl k2 k3 k4
        obtain ⟨p1, p2⟩ := p
        obtain ⟨q1, q2⟩ := q
        simp only at hh hMl g2 g3 g4 k2 k3 k4
        refine Ex.mk _ (jx_moves (r := c) rfl g2) ?_
        refine Ex.mk _ rfl ?_
        refine Ex.mk _ (jx_moves (r := c) rfl k2) ?_
        refine Ex.mk _ rfl ?_
        refine If.mk (fun h3 => ?_) (fun h3 => ?_)
        · refine ifN ?_
          rw [if_pos h3] at hh
          generalize hD : M p1.toNat q1.toNat = D at hh hMl
          refine Ex.mk _ (jx_moves (r := c) rfl g2) ?_
          refine Ex.mk _ rfl ?_
          have hp : p1 = 0 ∨ p1 = 1 ∨ p1 = 2 ∨ p1 = 3 := by omega
          have hp0 : 0 ≤ p1 ∧ p1 < 3 := by omega
          rcases hp with rfl | rfl | rfl | rfl <;> first | (exfalso; omega) | skip
          all_goals
            refine Ex.mk _ (jx_moves (r := c) rfl k2) ?_
            refine Ex.mk _ rfl ?_
            refine NowR.of (aop_indexH (elem := 25) (sz := 1) (r := q1.toNat) rfl rfl rfl k4.symm k3 (by kernel_rfl) (by kernel_rfl)) ?_
            cases D with
            | nil =>
              refine NowR.of (aop_loadP rfl rfl rfl (load_cell (v := eCell []) k3 (congrArg eCell hD))) ?_
              rw [if_neg (by simp)] at hh
              refine If.mk (fun h => absurd h (by decide)) (fun _ => ?_)
              refine ifN ?_
              refine Side.mk (fits64 (by omega)) ?_
              refine ⟨leb rfl, rfl, by omega, fun d hd => ?_, ⟨⟨_, rfl, Weak.refl _ _, under_state _ _⟩, ⟨_, rfl, Weak.refl _ _, under_state _ _⟩, wp rfl (ltb rfl), wp rfl trivial, wp rfl trivial, trivial⟩, ⟨bk rfl rfl, bk rfl rfl, bk rfl rfl, bk rfl rfl, trivial⟩, trivial⟩
              rcases Nat.lt_or_ge d c with h6 | h6
              · exact hI d h6
              · obtain rfl : d = c := by omega
                exact hh
            | cons d l =>
              refine NowR.of (aop_loadP rfl rfl rfl (load_cell (v := eCell (d :: l)) k3 (congrArg eCell hD))) ?_
              have hcl := cuesI_length (d :: l)
              refine If.mk (fun _ => ?_) (fun h => absurd (by simp [cuesI]) h)
              refine Side.mk (fits64 (by omega)) ?_
              refine If.mk (fun h5 => ?_) (fun h5 => ?_)
              · rw [if_pos ⟨by simp, by omega⟩] at hh
                have hfc := fstC_hit (K := K) (c := c) (by omega) hI (by rw [hh]; simp)
                refine ifY ?_
                refine ex_app _ _ (app_cons (l := cuesI (d :: l)) (by simp [cuesI]) (by omega)) ?_
                refine ⟨leb rfl, .inl rfl, leb rfl, rfl, _, rfl, fun H => ?_⟩
                rw [hfc, hh]
                exact wk_consD H
              · refine ifN ?_
                rw [if_neg (fun h => h5 (by omega))] at hh
                refine Side.mk (fits64 (by omega)) ?_
                refine ⟨leb rfl, rfl, by omega, fun d hd => ?_, ⟨⟨_, rfl, Weak.refl _ _, under_state _ _⟩, ⟨_, rfl, Weak.refl _ _, under_state _ _⟩, wp rfl (ltb rfl), wp rfl trivial, wp rfl trivial, trivial⟩, ⟨bk rfl rfl, bk rfl rfl, bk rfl rfl, bk rfl rfl, trivial⟩, trivial⟩
                rcases Nat.lt_or_ge d c with h6 | h6
                · exact hI d h6
                · obtain rfl : d = c := by omega
                  exact hh
        · refine ifY ?_
          rw [if_neg h3] at hh
          refine If.mk (fun h4 => ?_) (fun h4 => ?_)
          · rw [if_pos (by omega)] at hh
            have hfc := fstC_hit (K := K) (c := c) (by omega) hI (by rw [hh]; simp)
            refine ifY ?_
            refine ⟨leb rfl, .inl rfl, leb rfl, rfl, _, rfl, fun H => ?_⟩
            rw [hfc, hh]
            exact wk_oneCell H
          · rw [if_neg (by omega)] at hh
            refine ifN ?_
            refine Side.mk (fits64 (by omega)) ?_
            refine ⟨leb rfl, rfl, by omega, fun d hd => ?_, ⟨⟨_, rfl, Weak.refl _ _, under_state _ _⟩, ⟨_, rfl, Weak.refl _ _, under_state _ _⟩, wp rfl (ltb rfl), wp rfl trivial, wp rfl trivial, trivial⟩, ⟨bk rfl rfl, bk rfl rfl, bk rfl rfl, bk rfl rfl, trivial⟩, trivial⟩
            rcases Nat.lt_or_ge d c with h6 | h6
            · exact hI d h6
            · obtain rfl : d = c := by omega
              exact hh
      · refine ifN ?_
        have ec : c = K := by omega
        subst ec
        have hfc := fstC_none hI
        refine ⟨leb rfl, .inl rfl, leb rfl, rfl, _, rfl, fun H => ?_⟩
        rw [hfc]
        exact wk_nilCell H
  · refine fn_atW (m := false) (fn := Tryz.f165) (c := (Tryz.f165.body).getD .skip) mixed (by kernel_rfl) (by kernel_rfl) (of_decide_eq_true (by kernel_rfl)) (under_eCell _ _) ?_ H hH
    refine loop_up mixed (m := false) (fun c => [(0, eState s), (1, eState t), (2, .hsl 3 0 4 4), (3, n' (r + 1 : Nat)), (9, n' c)]) (fun _ => tabL 4 w.length M) (fun c => ∀ d, d < c → hitC v w M (r + 1) i j d = []) K 28 (leb rfl) (fun _ h => by omega) ?_ ?_ ?_
    · exact ⟨⟨_, rfl, Weak.refl _ _, under_state _ _⟩, ⟨_, rfl, Weak.refl _ _, under_state _ _⟩, wp rfl (ltb rfl), wp rfl trivial, wp rfl trivial, trivial⟩
    · exact ⟨bk rfl rfl, bk rfl rfl, bk rfl rfl, bk rfl rfl, bk rfl rfl, trivial⟩
    · intro c hc hI
      refine If.mk (fun h1 => ?_) (fun h1 => ?_)
      · refine ifY ?_
        obtain ⟨s', g1, g2, g3, g4⟩ := mv_at hv hi (c := c) (by omega)
        rw [hs] at g1
        obtain rfl := Option.some.inj g1
        obtain ⟨t', k1, k2, k3, k4⟩ := mv_at hw hj (c := c) (by omega)
        rw [ht] at k1
        obtain rfl := Option.some.inj k1
        have hh : hitC v w M (r + 1) i j c = if (mv v i c).2 = (mv w j c).2 then
            (if 0 < (M (mv v i c).1.toNat (mv w j c).1.toNat).length ∧ (M (mv v i c).1.toNat (mv w j c).1.toNat).length + 1 = r + 1 then c :: M (mv v i c).1.toNat (mv w j c).1.toNat else [])
          else (if r + 1 = 1 then [c] else []) := rfl
        have hMl := hM (mv v i c).1.toNat (mv w j c).1.toNat g3 k3
        generalize mv v i c = p at hh hMl g2 g3 g4
        generalize mv w j c = q at hh hMl k2 k3 k4
        obtain ⟨p1, p2⟩ := p
        obtain ⟨q1, q2⟩ := q
        simp only at hh hMl g2 g3 g4 k2 k3 k4
        refine Ex.mk _ (jx_moves (r := c) rfl g2) ?_
        refine Ex.mk _ rfl ?_
        refine Ex.mk _ (jx_moves (r := c) rfl k2) ?_
        refine Ex.mk _ rfl ?_
        refine If.mk (fun h3 => ?_) (fun h3 => ?_)
        · refine ifN ?_
          rw [if_pos h3] at hh
          generalize hD : M p1.toNat q1.toNat = D at hh hMl
          refine Ex.mk _ (jx_moves (r := c) rfl g2) ?_
          refine Ex.mk _ rfl ?_
          have hp : p1 = 0 ∨ p1 = 1 ∨ p1 = 2 ∨ p1 = 3 := by omega
          have hp0 : 0 ≤ p1 ∧ p1 < 4 := by omega
          rcases hp with rfl | rfl | rfl | rfl <;> first | (exfalso; omega) | skip
          all_goals
            refine Ex.mk _ (jx_moves (r := c) rfl k2) ?_
            refine Ex.mk _ rfl ?_
            refine NowR.of (aop_indexH (elem := 25) (sz := 1) (r := q1.toNat) rfl rfl rfl k4.symm k3 (by kernel_rfl) (by kernel_rfl)) ?_
            cases D with
            | nil =>
              refine NowR.of (aop_loadP rfl rfl rfl (load_cell (v := eCell []) k3 (congrArg eCell hD))) ?_
              rw [if_neg (by simp)] at hh
              refine If.mk (fun h => absurd h (by decide)) (fun _ => ?_)
              refine ifN ?_
              refine Side.mk (fits64 (by omega)) ?_
              refine ⟨leb rfl, rfl, by omega, fun d hd => ?_, ⟨⟨_, rfl, Weak.refl _ _, under_state _ _⟩, ⟨_, rfl, Weak.refl _ _, under_state _ _⟩, wp rfl (ltb rfl), wp rfl trivial, wp rfl trivial, trivial⟩, ⟨bk rfl rfl, bk rfl rfl, bk rfl rfl, bk rfl rfl, bk rfl rfl, trivial⟩, trivial⟩
              rcases Nat.lt_or_ge d c with h6 | h6
              · exact hI d h6
              · obtain rfl : d = c := by omega
                exact hh
            | cons d l =>
              refine NowR.of (aop_loadP rfl rfl rfl (load_cell (v := eCell (d :: l)) k3 (congrArg eCell hD))) ?_
              have hcl := cuesI_length (d :: l)
              refine If.mk (fun _ => ?_) (fun h => absurd (by simp [cuesI]) h)
              refine Side.mk (fits64 (by omega)) ?_
              refine If.mk (fun h5 => ?_) (fun h5 => ?_)
              · rw [if_pos ⟨by simp, by omega⟩] at hh
                have hfc := fstC_hit (K := K) (c := c) (by omega) hI (by rw [hh]; simp)
                refine ifY ?_
                refine ex_app _ _ (app_cons (l := cuesI (d :: l)) (by simp [cuesI]) (by omega)) ?_
                refine ⟨leb rfl, .inl rfl, leb rfl, rfl, _, rfl, fun H => ?_⟩
                rw [hfc, hh]
                exact wk_consD H
              · refine ifN ?_
                rw [if_neg (fun h => h5 (by omega))] at hh
                refine Side.mk (fits64 (by omega)) ?_
                refine ⟨leb rfl, rfl, by omega, fun d hd => ?_, ⟨⟨_, rfl, Weak.refl _ _, under_state _ _⟩, ⟨_, rfl, Weak.refl _ _, under_state _ _⟩, wp rfl (ltb rfl), wp rfl trivial, wp rfl trivial, trivial⟩, ⟨bk rfl rfl, bk rfl rfl, bk rfl rfl, bk rfl rfl, bk rfl rfl, trivial⟩, trivial⟩
                rcases Nat.lt_or_ge d c with h6 | h6
                · exact hI d h6
                · obtain rfl : d = c := by omega
                  exact hh
        · refine ifY ?_
          rw [if_neg h3] at hh
          refine If.mk (fun h4 => ?_) (fun h4 => ?_)
          · rw [if_pos (by omega)] at hh
            have hfc := fstC_hit (K := K) (c := c) (by omega) hI (by rw [hh]; simp)
            refine ifY ?_
            refine ⟨leb rfl, .inl rfl, leb rfl, rfl, _, rfl, fun H => ?_⟩
            rw [hfc, hh]
            exact wk_oneCell H
          · rw [if_neg (by omega)] at hh
            refine ifN ?_
            refine Side.mk (fits64 (by omega)) ?_
            refine ⟨leb rfl, rfl, by omega, fun d hd => ?_, ⟨⟨_, rfl, Weak.refl _ _, under_state _ _⟩, ⟨_, rfl, Weak.refl _ _, under_state _ _⟩, wp rfl (ltb rfl), wp rfl trivial, wp rfl trivial, trivial⟩, ⟨bk rfl rfl, bk rfl rfl, bk rfl rfl, bk rfl rfl, bk rfl rfl, trivial⟩, trivial⟩
            rcases Nat.lt_or_ge d c with h6 | h6
            · exact hI d h6
            · obtain rfl : d = c := by omega
              exact hh
      · refine ifN ?_
        have ec : c = K := by omega
        subst ec
        have hfc := fstC_none hI
        refine ⟨leb rfl, .inl rfl, leb rfl, rfl, _, rfl, fun H => ?_⟩
        rw [hfc]
        exact wk_nilCell H
end Go.Vm

namespace Go.Vm
open Go.Proofs
def tabT (v w : Vers) (n : Nat) (M : Nat → Nat → List Nat) : List (Nat × Blk) := (1, vBox v) :: (2, vBox w) :: tabL n w.length M
set_option maxHeartbeats 40000000 in
set_option maxRecDepth 100000 in
theorem c_differ (b : Book) {v w : Vers} {K : Nat} (hv : VersOk v K) (hw : VersOk w K) (hK : K ≤ 4) (hv4 : inI v.length 1 4) (hw4 : inI w.length 1 4) (H : List Blk) :
  ACall Tryz.prog 110 [eBook b, eVersion v, eVersion w] H (.ret (eTab v w K)) H := by
 unfold inI at hv4 hw4
 have hn : v.length = 1 ∨ v.length = 2 ∨ v.length = 3 ∨ v.length = 4 := by omega
 refine fn_ruleH (m := false) (fn := Tryz.f110) (c := (Tryz.f110.body).getD .skip) mixed (by kernel_rfl) (by kernel_rfl) (of_decide_eq_true (by kernel_rfl)) ?_ ?_ ?_ H
 ·exact ⟨under_eBook 0 _, under_eVersion 0 _, under_eVersion 0 _, trivial⟩
 ·exact under_eTab 0 _ _ _
 ·rcases hn with hn | hn | hn | hn
  case' inl =>
   let p : Nat := 1
   have hp : p = 1 := rfl
  case' inr.inl =>
   let p : Nat := 2
   have hp : p = 2 := rfl
  case' inr.inr.inl =>
   let p : Nat := 3
   have hp : p = 3 := rfl
  case' inr.inr.inr =>
   let p : Nat := 4
   have hp : p = 4 := rfl
  all_goals
   refine NowR.of (aop_makeSlice (k := p) (e := 48) (bytes := 24) (x := .slice none 0 0) (z := .slice none 0 0) rfl rfl rfl (by omega) (by omega) (by kernel_rfl) (by kernel_rfl) (by kernel_rfl) (by kernel_rfl) rfl (by omega)) ?_
   repeat
    refine LoopG.round (m := false) mixed ?_
    refine If.mk (fun _ => ?_) (fun h => absurd (by decide) h)
    refine ifY ?_
    refine NowR.of (aop_makeSlice (k := w.length) (e := 25) (bytes := 24) (x := .slice none 0 0) (z := .slice none 0 0) rfl rfl rfl rfl (by omega) (by kernel_rfl) (by kernel_rfl) (by kernel_rfl) (by kernel_rfl) rfl (by omega)) ?_
    refine Side.mk (by unfold fitsK; kernel_rfl) ?_
   refine LoopG.round (m := false) mixed ?_
   refine If.mk (fun h => absurd h (by decide)) (fun _ => ?_)
   refine ifN ?_
   refine loop_up mixed (m := false) (fun r => [(4, .ptr 1 0), (5, .ptr 2 0), (7, .hsl 3 0 p p), (9, n' (r + 1 : Nat))]) (fun r => tabT v w p (dF v w K r)) (fun _ => True) (v.length * w.length) 3 (leb rfl) trivial ?_ ?_ ?_
   ·exact ⟨wp rfl (ltb rfl), wp rfl (ltb rfl), wp rfl (ltb rfl), wp rfl trivial, trivial⟩
   ·refine ⟨bk rfl rfl, bk rfl rfl, bk rfl rfl, ?_⟩
    repeat first | exact trivial | refine ⟨⟨(by first | rfl | exact congrArg some (rowB_congr fun y hy => rfl)), ltb rfl⟩, ?_⟩
   ·intro r hr _
    refine Side.mk (fits64 (by rw [hn]; omega)) ?_
    refine If.mk (fun h1 => ?_) (fun h1 => ?_)
    ·refine ifY ?_
     have hr' : r + 1 ≤ 16 := by rw [hn] at h1; omega
     refine loop_up mixed (m := false) (fun i => [(4, .ptr 1 0), (5, .ptr 2 0), (7, .hsl 3 0 p p), (9, n' (r + 1 : Nat)), (10, n' i)]) (fun i => tabT v w p (mixT v w K r i 0)) (fun _ => True) p 4 (leb rfl) trivial ?_ ?_ ?_
     ·exact ⟨wp rfl (ltb rfl), wp rfl (ltb rfl), wp rfl (ltb rfl), wp rfl trivial, wp rfl trivial, trivial⟩
     ·refine ⟨bk rfl rfl, bk rfl rfl, bk rfl rfl, ?_⟩
      repeat first | exact trivial | refine ⟨⟨(by first | rfl | exact congrArg some (rowB_congr fun y hy => mixT_start.symm)), ltb rfl⟩, ?_⟩
     ·intro i hi _
      rcases (show i = 0 ∨ i = 1 ∨ i = 2 ∨ i = 3 ∨ i = 4 by omega) with rfl | rfl | rfl | rfl | rfl
      case' inl => let q : Nat := 0
      case' inr.inl => let q : Nat := 1
      case' inr.inr.inl => let q : Nat := 2
      case' inr.inr.inr.inl => let q : Nat := 3
      case' inr.inr.inr.inr => let q : Nat := 4
      all_goals
       first
        |exfalso
         omega
        |skip
         refine If.mk (fun _ => ?_) (fun h => absurd (by decide) h)
         refine ifY ?_
         have hi' : q < v.length := by omega
         obtain ⟨s, hs, _, _⟩ := at_some (l := v) (r := q) hi'
         refine loop_up mixed (m := false) (fun j => [(4, .ptr 1 0), (5, .ptr 2 0), (7, .hsl 3 0 p p), (9, n' (r + 1 : Nat)), (10, n' (q : Nat)), (11, n' j)]) (fun j => tabT v w p (mixT v w K r q j)) (fun _ => True) w.length 4 (leb rfl) trivial ?_ ?_ ?_
         ·exact ⟨wp rfl (ltb rfl), wp rfl (ltb rfl), wp rfl (ltb rfl), wp rfl trivial, wp rfl trivial, wp rfl trivial, trivial⟩
         ·refine ⟨bk rfl rfl, bk rfl rfl, bk rfl rfl, ?_⟩
          repeat first | exact trivial | refine ⟨⟨(by first | rfl | exact congrArg some (rowB_congr fun y hy => rfl)), ltb rfl⟩, ?_⟩
         ·intro j hj _
          refine If.mk (fun h2 => ?_) (fun h2 => ?_)
          ·refine ifY ?_
           have hj' : j < w.length := by omega
           obtain ⟨t, ht, _, _⟩ := at_some (l := w) (r := j) hj'
           refine NowR.of (aop_indexH (elem := 25) (sz := 1) (r := j) rfl rfl rfl rfl hj' (by kernel_rfl) (by kernel_rfl)) ?_
           by_cases hD : dF v w K r q j = []
           ·refine NowR.of (aop_loadP rfl rfl rfl (load_cell (v := eCell []) hj' (congrArg eCell (mixT_here.trans hD)))) ?_
            refine ifY ?_
            refine Ex.mk _ (jx_states (r := q) rfl hs) ?_
            refine Ex.mk _ rfl ?_
            refine Ex.mk _ (jx_states (r := j) rfl ht) ?_
            refine Ex.mk _ rfl ?_
            have hnew : fstC (hitC v w (mixT v w K r q j) (r + 1) q j) K 0 = mixT v w K r q (j + 1) q j := by
             rw [mixT_next, dF_new hD]
             exact fstC_congr (fun c => hitC_mixed mixT_or q j c) K 0
            have hcall := fun H hH => c_first165 (n := p) hv hw hK (by omega) hn hi' hj' hs ht (mixT v w K r q j) (fun x y hx hy => mixT_length (by omega) hv hw hx hy) r (by omega) H hH
            rw [hnew] at hcall
            refine CallG.at _ (fun H hH => hcall H (hH.sub ?_)) ?_
            ·refine ⟨bk rfl rfl, ?_⟩
             repeat first | exact trivial | refine ⟨bk rfl rfl, ?_⟩
            ·refine NowR.of (aop_indexH (elem := 25) (sz := 1) (r := j) rfl rfl rfl rfl hj' (by kernel_rfl) (by kernel_rfl)) ?_
             refine NowR.of (aop_stP (t := 25) rfl rfl rfl (store_ptr (cells' := cellsR w.length fun y => eCell (mixT v w K r q (j + 1) q y)) rfl (by kernel_rfl) (by rw [cellsR_length]; omega) (eCell_cells _) (eCell_one _) (by rw [Nat.zero_add, Nat.mul_one]; exact cellsR_set hj' rfl (fun y hy => congrArg eCell (mixT_other (by omega)))))) ?_
             refine Side.mk (fits64 (by omega)) ?_
             refine ⟨leb rfl, rfl, hj', trivial, ⟨wp rfl (ltb rfl), wp rfl (ltb rfl), wp rfl (ltb rfl), wp rfl trivial, wp rfl trivial, wp rfl trivial, trivial⟩, ?_, ?_⟩
             ·refine ⟨bk rfl rfl, bk rfl rfl, bk rfl rfl, ?_⟩
              repeat first | exact trivial | refine ⟨⟨(by first | rfl | exact congrArg some (rowB_congr fun y hy => (mixT_other (by omega)).symm)), ltb rfl⟩, ?_⟩
             ·repeat first | exact trivial | refine ⟨⟨_, rfl, under_cellsR fun _ => under_eCell _ _⟩, ?_⟩
           ·obtain ⟨c, l, hl⟩ := List.exists_cons_of_ne_nil hD
            refine NowR.of (aop_loadP rfl rfl rfl (load_cell (v := eCell (c :: l)) hj' (congrArg eCell (mixT_here.trans hl)))) ?_
            refine ifN ?_
            refine Side.mk (fits64 (by omega)) ?_
            refine ⟨leb rfl, rfl, hj', trivial, ⟨wp rfl (ltb rfl), wp rfl (ltb rfl), wp rfl (ltb rfl), wp rfl trivial, wp rfl trivial, wp rfl trivial, trivial⟩, ?_, ?_⟩
            ·refine ⟨bk rfl rfl, bk rfl rfl, bk rfl rfl, ?_⟩
             repeat first | exact trivial | refine ⟨⟨(by first | rfl | exact congrArg some (rowB_congr fun y hy => (mixT_keep hD).symm)), ltb rfl⟩, ?_⟩
            ·repeat first | exact trivial | refine ⟨⟨_, rfl, under_cellsR fun _ => under_eCell _ _⟩, ?_⟩
          ·refine ifN ?_
           obtain rfl : j = w.length := by omega
           refine ⟨leb rfl, ?_⟩
           refine Side.mk (fits64 (by omega)) ?_
           refine ⟨leb rfl, rfl, by omega, trivial, ⟨wp rfl (ltb rfl), wp rfl (ltb rfl), wp rfl (ltb rfl), wp rfl trivial, wp rfl trivial, trivial⟩, ?_, ?_⟩
           ·refine ⟨bk rfl rfl, bk rfl rfl, bk rfl rfl, ?_⟩
            repeat first | exact trivial | refine ⟨⟨(by first | rfl | exact congrArg some (rowB_congr fun y hy => mixT_row hy)), ltb rfl⟩, ?_⟩
           ·repeat first | exact trivial | refine ⟨⟨_, rfl, under_cellsR fun _ => under_eCell _ _⟩, ?_⟩
        |skip
         refine If.mk (fun h => absurd h (by decide)) (fun _ => ?_)
         refine ifN ?_
         refine ⟨leb rfl, ?_⟩
         refine Side.mk (fits64 (by omega)) ?_
         refine ⟨leb rfl, rfl, by rw [hn] at h1 ⊢; omega, trivial, ⟨wp rfl (ltb rfl), wp rfl (ltb rfl), wp rfl (ltb rfl), wp rfl trivial, trivial⟩, ?_, ?_⟩
         ·refine ⟨bk rfl rfl, bk rfl rfl, bk rfl rfl, ?_⟩
          repeat first | exact trivial | refine ⟨⟨(by first | rfl | exact congrArg some (rowB_congr fun y hy => mixT_end (by omega))), ltb rfl⟩, ?_⟩
         ·repeat first | exact trivial | refine ⟨⟨_, rfl, under_cellsR fun _ => under_eCell _ _⟩, ?_⟩
    ·refine ifN ?_
     have er : r = v.length * w.length := by rw [hn] at h1 hr ⊢; omega
     subst er
     refine ⟨leb rfl, .inl rfl, rfl, _, rfl, ?_⟩
     have e : eTab v w K = .sl p (cellsR p fun x => .sl w.length (cellsR w.length fun y => eCell (dT v w K x y)) .unk) .unk := by
      unfold eTab
      rw [hn]
     rw [e]
     refine Frz.hsl (cells := cellsR p fun x => .hsl (4 + x) 0 w.length w.length) rfl rfl (cellsR_length _ _) (FrzL.cells fun x hx => ?_)
     rcases (show x = 0 ∨ x = 1 ∨ x = 2 ∨ x = 3 by omega) with rfl | rfl | rfl | rfl
     all_goals first
      |exfalso
       omega
      | exact Frz.hsl rfl (cellsR_length _ _) (cellsR_length _ _) (FrzL.cells fun y _ => Frz.keep (under_eCell 0 _))
end Go.Vm

namespace Go.Vm
open Go.Proofs
set_option maxRecDepth 100000 in
theorem c_refTell (b : Book) {v w : Vers} {K : Nat} (hv : VersOk v K) (hw : VersOk w K) (hK : K ≤ 4) (hv4 : inI v.length 1 4) (hw4 : inI w.length 1 4) (H : List Blk) :
  ACall Tryz.prog 51 [eBook b, eVersion v, eVersion w] H (.ret (.tup [eCell (dT v w K 0 0), nb (decide (dT v w K 0 0 ≠ []))])) H := by
 have hv4' := hv4
 have hw4' := hw4
 unfold inI at hv4' hw4'
 refine fn_rule (m := false) (fn := Tryz.f51) (c := (Tryz.f51.body).getD .skip) mixed (by kernel_rfl) (by kernel_rfl) (of_decide_eq_true (by kernel_rfl)) ?_ ?_ ?_ H
 ·exact ⟨under_eBook 0 _, under_eVersion 0 _, under_eVersion 0 _, trivial⟩
 ·exact under_tup2 (under_eCell 0 _) trivial
 ·refine CallG.pure _ (c_differ b hv hw hK hv4 hw4) ?_
  refine Ex.mk _ (jx_cells (elem := 48) (r := 0) rfl (by omega) (by kernel_rfl) (by kernel_rfl)) ?_
  refine Ex.mk _ rfl ?_
  refine Ex.mk _ (jx_cells (elem := 25) (r := 0) rfl (by omega) (by kernel_rfl) (by kernel_rfl)) ?_
  generalize dT v w K 0 0 = l
  cases l with
  | nil =>
   refine Ex.mk _ rfl ?_
   exact ⟨.inl rfl, FinG.mk _ rfl rfl rfl⟩
  | cons c l =>
   refine Ex.mk _ rfl ?_
   refine ⟨.inl rfl, FinG.mk _ rfl rfl ?_⟩
   show AV.tup [AV.freeze _ (eInts (cuesI (c :: l))), _] = _
   rw [freeze_eInts]
   rfl
set_option maxRecDepth 100000 in
theorem c_alike (b : Book) {v w : Vers} {K : Nat} (hv : VersOk v K) (hw : VersOk w K) (hK : K ≤ 4) (hv4 : inI v.length 1 4) (hw4 : inI w.length 1 4) (H : List Blk) :
  ACall Tryz.prog 166 [eBook b, eVersion v, eVersion w] H (.ret (.lit (.bool (decide (dT v w K 0 0 = []))))) H := by
 refine fn_rule (m := false) (fn := Tryz.f166) (c := (Tryz.f166.body).getD .skip) mixed (by kernel_rfl) (by kernel_rfl) (of_decide_eq_true (by kernel_rfl)) ?_ ?_ ?_ H
 ·exact ⟨under_eBook 0 _, under_eVersion 0 _, under_eVersion 0 _, trivial⟩
 ·trivial
 ·have h := fun H => c_refTell b hv hw hK hv4 hw4 H
  generalize dT v w K 0 0 = l at h
  cases l with
  | nil =>
   refine CallG.pure _ (h) ?_
   exact ⟨.inl rfl, FinG.yes rfl rfl rfl⟩
  | cons c l =>
   refine CallG.pure _ (h) ?_
   exact ⟨.inl rfl, FinG.no rfl rfl (fun e => by cases e)⟩
end Go.Vm
