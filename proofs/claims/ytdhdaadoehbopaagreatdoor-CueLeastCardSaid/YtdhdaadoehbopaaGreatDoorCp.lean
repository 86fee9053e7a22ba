/-
  Contracts of functions of packages kelirlaw04, kelirref04, kelirref02, cue and slices, for books, evenings and lists as told at each, in every heap. Conditions: at each theorem. (The document's table of first lists that tell states apart.)
-/
import Derived.Test.YtdhdaadoehbopaaGreatDoorCq
import Derived.Test.YtdhdaadoehbopaaGreatDoorVc
import Derived.Test.YtdhdaadoehbopaaGreatDoorCo

namespace Go.Vm
open Go.Proofs
def fstC (h : Nat → List Nat) : Nat → Nat → List Nat
 | 0, _ => []
 | n + 1, c => if h c = [] then fstC h n (c + 1) else h c
theorem fstC_nil {h : Nat → List Nat} : ∀ {n c : Nat}, fstC h n c = [] → ∀ d, c ≤ d → d < c + n → h d = []
 | 0, c, _, d, h1, h2 => by omega
 | n + 1, c, e, d, h1, h2 => by
  unfold fstC at e
  by_cases hc : h c = []
  ·rw [if_pos hc] at e
   rcases Nat.eq_or_lt_of_le h1 with h3 | h3
   ·rw [← h3]; exact hc
   ·exact fstC_nil e d h3 (by omega)
  ·rw [if_neg hc] at e
   exact absurd e hc
theorem fstC_some {h : Nat → List Nat} : ∀ {n c : Nat}, fstC h n c ≠ [] → ∃ d, c ≤ d ∧ d < c + n ∧ fstC h n c = h d ∧ h d ≠ [] ∧ ∀ a, c ≤ a → a < d → h a = []
 | 0, c, e => absurd rfl e
 | n + 1, c, e => by
  unfold fstC at e ⊢
  by_cases hc : h c = []
  ·rw [if_pos hc] at e ⊢
   obtain ⟨d, h1, h2, h3, h4, h5⟩ := fstC_some e
   refine ⟨d, by omega, by omega, h3, h4, fun a h6 h7 => ?_⟩
   rcases Nat.eq_or_lt_of_le h6 with h8 | h8
   ·rw [← h8]; exact hc
   ·exact h5 a h8 h7
  ·rw [if_neg hc]
   exact ⟨c, by omega, by omega, rfl, hc, fun a h6 h7 => by omega⟩
def hitC (v w : Vers) (D : Nat → Nat → List Nat) (r i j c : Nat) : List Nat :=
 if (mv v i c).2 = (mv w j c).2 then
  (if 0 < (D (mv v i c).1.toNat (mv w j c).1.toNat).length ∧ (D (mv v i c).1.toNat (mv w j c).1.toNat).length + 1 = r then c :: D (mv v i c).1.toNat (mv w j c).1.toNat else [])
 else (if r = 1 then [c] else [])
theorem hitC_length {v w : Vers} {D : Nat → Nat → List Nat} {r i j c : Nat} (h : hitC v w D r i j c ≠ []) : (hitC v w D r i j c).length = r := by
 unfold hitC at h ⊢
 by_cases h1 : (mv v i c).2 = (mv w j c).2
 ·rw [if_pos h1] at h ⊢
  by_cases h2 : 0 < (D (mv v i c).1.toNat (mv w j c).1.toNat).length ∧ (D (mv v i c).1.toNat (mv w j c).1.toNat).length + 1 = r
  ·rw [if_pos h2]
   exact h2.2
  ·rw [if_neg h2] at h
   exact absurd rfl h
 ·rw [if_neg h1] at h ⊢
  by_cases h2 : r = 1
  ·rw [if_pos h2, h2]; rfl
  ·rw [if_neg h2] at h
   exact absurd rfl h
def dF (v w : Vers) (K : Nat) : Nat → Nat → Nat → List Nat
 | 0, _, _ => []
 | r + 1, i, j => if dF v w K r i j = [] then fstC (hitC v w (dF v w K r) (r + 1) i j) K 0 else dF v w K r i j
theorem dF_old {v w : Vers} {K r i j : Nat} (h : dF v w K r i j ≠ []) : dF v w K (r + 1) i j = dF v w K r i j := if_neg h
theorem dF_new {v w : Vers} {K r i j : Nat} (h : dF v w K r i j = []) : dF v w K (r + 1) i j = fstC (hitC v w (dF v w K r) (r + 1) i j) K 0 := if_pos h
def Tells (v w : Vers) (i j : Nat) (u : List Nat) : Prop := plays v i (cuesI u) ≠ plays w j (cuesI u)
theorem tells_cons {v w : Vers} {i j c : Nat} {u : List Nat} : Tells v w i j (c :: u) ↔ (mv v i c).2 ≠ (mv w j c).2 ∨ Tells v w (mv v i c).1.toNat (mv w j c).1.toNat u := by
 unfold Tells
 show ¬ ((mv v i c).2 :: plays v (mv v i c).1.toNat (cuesI u) = (mv w j c).2 :: plays w (mv w j c).1.toNat (cuesI u)) ↔ _
 rw [List.cons.injEq]
 by_cases h : (mv v i c).2 = (mv w j c).2
 ·simp [h]
 ·simp [h]
theorem LE.cons {a b : List Nat} (c : Nat) (h : LE a b) (hl : a.length = b.length) : LE (c :: a) (c :: b) := by
 rcases h with (h | ⟨_, h⟩) | h
 ·omega
 ·exact .inl (.inr ⟨by rw [List.length_cons, List.length_cons, hl], .inr ⟨rfl, h⟩⟩)
 ·rw [h]; exact .inr rfl
structure DOk (v w : Vers) (K r i j : Nat) (l : List Nat) : Prop where
 yes : l ≠ [] → OkL K l ∧ Tells v w i j l ∧ l.length ≤ r ∧ ∀ u, OkL K u → Tells v w i j u → LE l u
 no : l = [] → ∀ u, OkL K u → u.length ≤ r → ¬ Tells v w i j u
theorem okL_cons {K c : Nat} {u : List Nat} : OkL K (c :: u) ↔ c < K ∧ OkL K u := by
 unfold OkL
 simp
theorem dF_ok {v w : Vers} {K : Nat} (hv : VersOk v K) (hw : VersOk w K) : ∀ r i j, i < v.length → j < w.length → DOk v w K r i j (dF v w K r i j)
 | 0, i, j, _, _ => by
  refine ⟨fun h => absurd rfl h, fun _ u _ hl => ?_⟩
  obtain rfl := List.length_eq_zero_iff.1 (by omega : u.length = 0)
  exact fun h => h rfl
 | r + 1, i, j, hi, hj => by
  have ih := dF_ok hv hw r
  by_cases h : dF v w K r i j = []
  ·rw [dF_new h]
   have hno := (ih i j hi hj).no h
   have hit1 : ∀ c, c < K → hitC v w (dF v w K r) (r + 1) i j c ≠ [] → ∃ t, hitC v w (dF v w K r) (r + 1) i j c = c :: t ∧ OkL K (c :: t) ∧ Tells v w i j (c :: t) ∧ ∀ u, OkL K (c :: u) → Tells v w i j (c :: u) → u.length = r → LE (c :: t) (c :: u) := fun c hc hne => by
    obtain ⟨_, _, _, hv', _⟩ := mv_at hv hi hc
    obtain ⟨_, _, _, hw', _⟩ := mv_at hw hj hc
    have ih' := ih _ _ hv' hw'
    have hlen := hitC_length hne
    unfold hitC at hne hlen ⊢
    by_cases h1 : (mv v i c).2 = (mv w j c).2
    ·rw [if_pos h1] at hne hlen ⊢
     by_cases h2 : 0 < (dF v w K r (mv v i c).1.toNat (mv w j c).1.toNat).length ∧ (dF v w K r (mv v i c).1.toNat (mv w j c).1.toNat).length + 1 = r + 1
     ·rw [if_pos h2]
      obtain ⟨k1, k2, _, k4⟩ := ih'.yes (fun e => by rw [e] at h2; simp at h2)
      refine ⟨_, rfl, okL_cons.2 ⟨hc, k1⟩, tells_cons.2 (.inr k2), fun u hu ht hul => ?_⟩
      refine LE.cons c (k4 u (okL_cons.1 hu).2 ?_) (by omega)
      rcases tells_cons.1 ht with h3 | h3
      ·exact absurd h1 h3
      ·exact h3
     ·rw [if_neg h2] at hne
      exact absurd rfl hne
    ·rw [if_neg h1] at hne hlen ⊢
     by_cases h2 : r + 1 = 1
     ·rw [if_pos h2]
      refine ⟨[], rfl, okL_cons.2 ⟨hc, fun _ h => by cases h⟩, tells_cons.2 (.inl h1), fun u _ _ hul => ?_⟩
      obtain rfl := List.length_eq_zero_iff.1 (by omega : u.length = 0)
      exact .inr rfl
     ·rw [if_neg h2] at hne
      exact absurd rfl hne
   have hit2 : ∀ c, c < K → hitC v w (dF v w K r) (r + 1) i j c = [] → ∀ u, OkL K (c :: u) → u.length = r → ¬ Tells v w i j (c :: u) := fun c hc he u hu hul ht => by
    obtain ⟨_, _, _, hv', _⟩ := mv_at hv hi hc
    obtain ⟨_, _, _, hw', _⟩ := mv_at hw hj hc
    have ih' := ih _ _ hv' hw'
    unfold hitC at he
    by_cases h1 : (mv v i c).2 = (mv w j c).2
    ·rw [if_pos h1] at he
     have ht' : Tells v w (mv v i c).1.toNat (mv w j c).1.toNat u := by
      rcases tells_cons.1 ht with h3 | h3
      ·exact absurd h1 h3
      ·exact h3
     by_cases h3 : dF v w K r (mv v i c).1.toNat (mv w j c).1.toNat = []
     ·exact ih'.no h3 u (okL_cons.1 hu).2 (by omega) ht'
     ·obtain ⟨k1, k2, k3, k4⟩ := ih'.yes h3
      have hpos := List.length_pos_iff.2 h3
      by_cases h2 : 0 < (dF v w K r (mv v i c).1.toNat (mv w j c).1.toNat).length ∧ (dF v w K r (mv v i c).1.toNat (mv w j c).1.toNat).length + 1 = r + 1
      ·rw [if_pos h2] at he
       cases he
      ·exact hno (c :: dF v w K r (mv v i c).1.toNat (mv w j c).1.toNat) (okL_cons.2 ⟨hc, k1⟩) (by rw [List.length_cons]; omega) (tells_cons.2 (.inr k2))
    ·rw [if_neg h1] at he
     by_cases h2 : r + 1 = 1
     ·rw [if_pos h2] at he
      cases he
     ·exact hno [c] (okL_cons.2 ⟨hc, fun _ h => by cases h⟩) (by simp; omega) (tells_cons.2 (.inl h1))
   refine ⟨fun hne => ?_, fun he u hu hul ht => ?_⟩
   ·obtain ⟨d, _, hd, e, hdn, hbef⟩ := fstC_some hne
    obtain ⟨t, e2, k1, k2, k3⟩ := hit1 d (by omega) hdn
    have hlen := hitC_length hdn
    rw [e]
    rw [e2] at hlen ⊢
    refine ⟨k1, k2, by omega, fun u hu ht => ?_⟩
    rcases Nat.lt_trichotomy u.length (r + 1) with h3 | h3 | h3
    ·exact absurd ht (hno u hu (by omega))
    ·match u, hu, ht, h3 with
     | c :: u, hu, ht, h3 =>
      have hul : u.length = r := by simpa using h3
      have hc := (okL_cons.1 hu).1
      rcases Nat.lt_trichotomy c d with h4 | h4 | h4
      ·exact absurd ht (hit2 c hc (hbef c (Nat.zero_le _) h4) u hu hul)
      ·subst h4
       exact k3 u hu ht hul
      ·exact .inl (.inr ⟨by rw [hlen, h3], .inl h4⟩)
    ·exact .inl (.inl (by omega))
   ·rcases Nat.lt_or_ge u.length (r + 1) with h3 | h3
    ·exact hno u hu (by omega) ht
    ·match u, hu, ht, hul, h3 with
     | c :: u, hu, ht, hul, h3 =>
      have hc := (okL_cons.1 hu).1
      exact hit2 c hc (fstC_nil he c (Nat.zero_le _) (by omega)) u hu (by simp at hul h3; omega) ht
  ·rw [dF_old h]
   obtain ⟨k1, k2, k3, k4⟩ := (ih i j hi hj).yes h
   exact ⟨fun _ => ⟨k1, k2, by omega, k4⟩, fun e => absurd e h⟩
theorem differ_states {v w : Vers} {k i j : Nat} (hv : VersOk v k) (hw : VersOk w k) (hi : i < v.length) (hj : j < w.length) {l : List Nat} (hl : OkL k l) (hd : Tells v w i j l) : ∃ l', OkL k l' ∧ l'.length < v.length + w.length ∧ Tells v w i j l' := by
 have memv : ∀ s, s < v.length → (v, s) ∈ (List.range v.length).map (fun s => (v, s)) ++ (List.range w.length).map (fun s => (w, s)) := fun s hs => by
  simp only [List.mem_append, List.mem_map, List.mem_range]
  exact .inl ⟨s, hs, rfl⟩
 have memw : ∀ s, s < w.length → (w, s) ∈ (List.range v.length).map (fun s => (v, s)) ++ (List.range w.length).map (fun s => (w, s)) := fun s hs => by
  simp only [List.mem_append, List.mem_map, List.mem_range]
  exact .inr ⟨s, hs, rfl⟩
 obtain ⟨l', h1, h2, h3⟩ := differ_soon (step := vStep) (out := vOut) (k := k) (Q := (List.range v.length).map (fun s => (v, s)) ++ (List.range w.length).map (fun s => (w, s))) (e := (v, i)) (f := (w, j)) (fun e he c hc => by
  simp only [List.mem_append, List.mem_map, List.mem_range] at he
  rcases he with ⟨s, hs, rfl⟩ | ⟨s, hs, rfl⟩
  ·obtain ⟨_, _, _, h3, _⟩ := mv_at hv hs hc
   exact memv _ h3
  ·obtain ⟨_, _, _, h3, _⟩ := mv_at hw hs hc
   exact memw _ h3) (memv i hi) (memw j hj) hl (by rw [tr_plays, tr_plays]; exact hd)
 rw [tr_plays, tr_plays] at h3
 rw [List.length_append, List.length_map, List.length_map, List.length_range, List.length_range] at h2
 exact ⟨l', h1, h2, h3⟩
def dT (v w : Vers) (K i j : Nat) : List Nat := dF v w K (v.length * w.length) i j
theorem rounds_enough {n m : Nat} (hn : 0 < n) (hm : 0 < m) : n + m ≤ n * m + 1 := by
 obtain ⟨a, rfl⟩ : ∃ a, n = a + 1 := ⟨n - 1, by omega⟩
 obtain ⟨b, rfl⟩ : ∃ b, m = b + 1 := ⟨m - 1, by omega⟩
 rw [Nat.add_mul, Nat.mul_add]
 have := Nat.zero_le (a * b)
 omega
theorem dT_ok {v w : Vers} {K i j : Nat} (hv : VersOk v K) (hw : VersOk w K) (hi : i < v.length) (hj : j < w.length) :
  (dT v w K i j ≠ [] → OkL K (dT v w K i j) ∧ Tells v w i j (dT v w K i j) ∧ ∀ u, OkL K u → Tells v w i j u → LE (dT v w K i j) u) ∧ (dT v w K i j = [] → ∀ u, OkL K u → ¬ Tells v w i j u) := by
 obtain ⟨h1, h2⟩ := dF_ok hv hw (v.length * w.length) i j hi hj
 refine ⟨fun h => ?_, fun h u hu ht => ?_⟩
 ·obtain ⟨k1, k2, _, k4⟩ := h1 h
  exact ⟨k1, k2, k4⟩
 ·obtain ⟨l', k1, k2, k3⟩ := differ_states hv hw hi hj hu ht
  have := rounds_enough (n := v.length) (m := w.length) (by omega) (by omega)
  exact h2 h l' k1 (by omega) k3
def tellO (l : List Nat) : Option (List Nat) := if l = [] then none else some l
theorem dT_told {v w : Vers} {K : Nat} (hv : VersOk v K) (hw : VersOk w K) (hv0 : 0 < v.length) (hw0 : 0 < w.length) : TellR v w K (tellO (dT v w K 0 0)) := by
 obtain ⟨h1, h2⟩ := dT_ok hv hw hv0 hw0
 unfold tellO
 by_cases h : dT v w K 0 0 = []
 ·rw [if_pos h]
  refine ⟨fun _ u hu => ?_, fun l e => by cases e⟩
  exact Classical.byContradiction fun hne => h2 h u hu hne
 ·rw [if_neg h]
  refine ⟨fun e => (by cases e), fun l e => ?_⟩
  obtain rfl := Option.some.inj e
  exact h1 h
theorem TellR.unique {v w : Vers} {K : Nat} {o o' : Option (List Nat)} (h : TellR v w K o) (h' : TellR v w K o') : o = o' := by
 cases o with
 | none =>
  cases o' with
  | none => rfl
  | some l =>
   obtain ⟨k1, k2, _⟩ := h'.yes l rfl
   exact absurd (h.no rfl l k1) k2
 | some l =>
  obtain ⟨k1, k2, k3⟩ := h.yes l rfl
  cases o' with
  | none => exact absurd (h'.no rfl l k1) k2
  | some l' =>
   obtain ⟨j1, j2, j3⟩ := h'.yes l' rfl
   rw [(k3 l' j1 j2).antisymm (j3 l k1 k2)]
end Go.Vm

namespace Go.Vm
open Go.Proofs
def cellsR (m : Nat) (f : Nat → AV) : List AV := (List.range m).map f
end Go.Vm

namespace Go.Vm
open Go.Proofs
def Frz (g : Nat → Option Blk) (a v : AV) : Prop := ∀ (_ : Outer) (S : Sit), Rel S → (∀ id B, g id = some B → S.H[id]? = some B) → ∀ c, VRel S a c → VRel ⟨S.H.take 0, cutι S.ι 0, S.w⟩ v c
def FrzL (g : Nat → Option Blk) (xs vs : List AV) : Prop := ∀ (_ : Outer) (S : Sit), Rel S → (∀ id B, g id = some B → S.H[id]? = some B) → ∀ cs, VRels S xs cs → VRels ⟨S.H.take 0, cutι S.ι 0, S.w⟩ vs cs
theorem Frz.keep {g : Nat → Option Blk} {a : AV} (h : a.under 0) : Frz g a a := fun _ _ _ _ c x => VRel.cut a c h x
theorem FrzL.nil (g : Nat → Option Blk) : FrzL g [] [] := fun _ _ _ _ cs x => by
 cases cs with
 | nil => simp [VRels]
 | cons _ _ => simp [VRels] at x
theorem FrzL.cons {g : Nat → Option Blk} {a v : AV} {xs vs : List AV} (h : Frz g a v) (hs : FrzL g xs vs) : FrzL g (a :: xs) (v :: vs) := fun O S hR hg cs x => by
 cases cs with
 | nil => simp [VRels] at x
 | cons c cs =>
  simp only [VRels] at x ⊢
  exact ⟨h O S hR hg c x.1, hs O S hR hg cs x.2⟩
theorem FrzL.map {g : Nat → Option Blk} {f f' : Nat → AV} : ∀ {l : List Nat}, (∀ x ∈ l, Frz g (f x) (f' x)) → FrzL g (l.map f) (l.map f')
 | [], _ => FrzL.nil g
 | _ :: l, h => FrzL.cons (h _ (by simp)) (FrzL.map (l := l) fun x hx => h x (by simp [hx]))
theorem FrzL.cells {g : Nat → Option Blk} {n : Nat} {f f' : Nat → AV} (h : ∀ x, x < n → Frz g (f x) (f' x)) : FrzL g (cellsR n f) (cellsR n f') := FrzL.map fun x hx => h x (List.mem_range.1 hx)
theorem Frz.tup {g : Nat → Option Blk} {xs vs : List AV} (h : FrzL g xs vs) : Frz g (.tup xs) (.tup vs) := fun O S hR hg c x => by
 simp only [VRel] at x ⊢
 obtain ⟨C, hc, hr⟩ := x
 exact ⟨C, hc, h O S hR hg _ hr⟩
theorem Frz.hsl {g : Nat → Option Blk} {id len : Nat} {cells cells' : List AV} {bt : TypeId} (hg : g id = some (.box cells bt)) (hl : cells.length = len) (hl' : cells'.length = len) (h : FrzL g cells cells') : Frz g (.hsl id 0 len len) (.sl len cells' .unk) := fun O S hR hS c x => by
 simp only [VRel] at x ⊢
 obtain ⟨b, wm, hi, _, hc⟩ := x
 refine ⟨_, len, hc, Nat.le_refl _, .inr ⟨b, 0, rfl, ?_, ?_⟩, trivial⟩
 ·obtain ⟨B, hB, hrel⟩ := hR.blk id b wm hi
  rw [hS _ _ hg] at hB; cases hB
  obtain ⟨C, hC, hcells⟩ := hrel
  have hlen := hcells.length
  refine ⟨C, bt, (0, 0), hC, by simp at hlen; omega, fun id wm e => by simp [cutι] at e, fun y hy => ?_⟩
  exact absurd hi ((hR.out b y hy).2 id wm)
 ·obtain ⟨B, hB, hrel⟩ := hR.blk id b wm hi
  rw [hS _ _ hg] at hB; cases hB
  obtain ⟨C, hC, hcells⟩ := hrel
  refine VRow.of_vals b (h O S hR hS _ hcells) fun i v hv => ?_
  rw [cell_eq]
  show (match S.w.heap[b]? with | some (.cells c _ _) => c[0 + i]? | _ => none) = _
  rw [hC]
  simpa using hv
theorem NowR.of {α : Type} {x : Option α} {K : α → Prop} {r : α} (h : x = some r) (k : K r) : NowR x K := by
 subst h
 exact k
end Go.Vm

namespace Go.Vm
open Go.Proofs
end Go.Vm

namespace Go.Vm
open Go.Proofs
end Go.Vm

namespace Go.Vm
open Go.Proofs
end Go.Vm
