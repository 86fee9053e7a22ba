/-
  Texts of the proof, part 17: the machine, contracts of functions, plain laws. (Own work.)
-/
import Derived.Test.YtkkpcbklhkfohaaGreatG12TopMeasures
import Derived.Test.YtkkpcbklhkfohaaGreatG16TopMeasures
import Derived.Test.YtkkpcbklhkfohaaGreatG15TopMeasures
import Derived.Test.YtkkpcbklhkfohaaGreatG11TopMeasures

namespace Go.Vm
open Go.Proofs
theorem trS_plays (vs : List Vers) (n : Nat) : ∀ (l : List Nat) (s : Nat), trM (stS vs) (ouS vs) (n, s) l = plays (vAt vs n) s (cuesI l)
 | [], _ => rfl
 | c :: l, s => by
  show ouS vs (n, s) c :: trM (stS vs) (ouS vs) (n, (mv (vAt vs n) s c).1.toNat) l = (mv (vAt vs n) s ((c : Int)).toNat).2 :: plays (vAt vs n) (mv (vAt vs n) s ((c : Int)).toNat).1.toNat (cuesI l)
  rw [trS_plays vs n l, Int.toNat_natCast]
  rfl
section
variable {P : Program} {m : Bool} {g : Nat → Option Blk} {n : Nat} {ρ : Operand → Option AV} {o : Oper} {t kt et id : Nat} {x k y : Operand} {key : Int} {es : List (Int × Int)} {v : Int}
end
end Go.Vm

namespace Go.Vm
open Go.Proofs
def alS (vs : List Vers) (K : Nat) (p q : Sta) : Prop := ∀ l, OkL K l → trM (stS vs) (ouS vs) p l = trM (stS vs) (ouS vs) q l
theorem alS.refl {vs : List Vers} {K : Nat} (p : Sta) : alS vs K p p := fun _ _ => rfl
theorem alS.symm {vs : List Vers} {K : Nat} {p q : Sta} (h : alS vs K p q) : alS vs K q p := fun l hl => (h l hl).symm
theorem alS_dT {vs : List Vers} {K a b s t : Nat} (ha : VersOk (vAt vs a) K) (hb : VersOk (vAt vs b) K) (hs : s < (vAt vs a).length) (ht : t < (vAt vs b).length) : alS vs K (a, s) (b, t) ↔ dT (vAt vs a) (vAt vs b) K s t = [] := by
 obtain ⟨h1, h2⟩ := dT_ok ha hb hs ht
 unfold alS
 simp only [trS_plays]
 constructor
 ·intro h
  apply Classical.byContradiction
  intro hne
  obtain ⟨k1, k2, _⟩ := h1 hne
  exact k2 (h _ k1)
 ·intro h u hu
  exact Classical.byContradiction fun hne => h2 h u hu hne
def pairS (vs : List Vers) (K : Nat) (m : Bool) (a b : Nat) (pa pb : Int) : Prop := 0 ≤ pa → 0 ≤ pb → m = true ∨ alS vs K (a, 0) (b, 0)
def doneS (vs : List Vers) (K : Nat) (p : Pos) : Prop :=
 pairS vs K p.2.1 1 0 p.1.2.1 p.1.1 ∧ pairS vs K p.2.2.1 2 0 p.1.2.2.1 p.1.1 ∧ pairS vs K p.2.2.2.1 2 1 p.1.2.2.1 p.1.2.1 ∧ pairS vs K p.2.2.2.2.1 3 0 p.1.2.2.2 p.1.1 ∧ pairS vs K p.2.2.2.2.2.1 3 1 p.1.2.2.2 p.1.2.1 ∧ pairS vs K p.2.2.2.2.2.2 3 2 p.1.2.2.2 p.1.2.2.1
theorem six {P : Nat → Nat → Prop} : (P 1 0 ∧ P 2 0 ∧ P 2 1 ∧ P 3 0 ∧ P 3 1 ∧ P 3 2) ↔ ∀ a b, a < 4 → b < a → P a b := by
 constructor
 ·rintro ⟨h1, h2, h3, h4, h5, h6⟩ a b ha hb
  have : a = 1 ∧ b = 0 ∨ a = 2 ∧ b = 0 ∨ a = 2 ∧ b = 1 ∨ a = 3 ∧ b = 0 ∨ a = 3 ∧ b = 1 ∨ a = 3 ∧ b = 2 := by omega
  rcases this with ⟨rfl, rfl⟩ | ⟨rfl, rfl⟩ | ⟨rfl, rfl⟩ | ⟨rfl, rfl⟩ | ⟨rfl, rfl⟩ | ⟨rfl, rfl⟩ <;> assumption
 ·intro h
  exact ⟨h 1 0 (by omega) (by omega), h 2 0 (by omega) (by omega), h 2 1 (by omega) (by omega), h 3 0 (by omega) (by omega), h 3 1 (by omega) (by omega), h 3 2 (by omega) (by omega)⟩
section
variable {vs : List Vers} {K : Nat} {L : List Int} (hv : ∀ v ∈ vs, VersOk v K) (hv0 : ∀ v ∈ vs, 0 < v.length) (hs : ∀ v ∈ vs, v.length ≤ 4) (hn : vs.length ≤ 4) (hL : LeftOk vs L)
theorem LeftOk.nat (hL : LeftOk vs L) : ∀ n : Nat, (n : Int) ∈ L → n < vs.length := fun n h => by have := hL.mem _ h; omega
theorem vAt_in {a : Nat} (h : a < vs.length) : vAt vs a ∈ vs := by
 have e : vAt vs a = vs[a] := by simp [vAt, List.getD, List.getElem?_eq_getElem h]
 rw [e]
 exact List.getElem_mem h
def specS (vs : List Vers) (K : Nat) (L : List Int) (l : List Nat) : Prop := ∀ i, i < L.length → ∀ k, k < i → ¬ (plI vs (lAt L i) l = plI vs (lAt L k) l ∧ dT (vAt vs (lAt L i).toNat) (vAt vs (lAt L k).toNat) K 0 0 ≠ [])
include hv hv0 hn hL in
theorem doneS_iff {l : List Nat} : doneS vs K (posRun vs L l) ↔ specS vs K L l := by
 have e1 : doneS vs K (posRun vs L l) ↔ ∀ a b, a < 4 → b < a → pairS vs K (brB vs L l a b) a b (erI vs L l a) (erI vs L l b) := six (P := fun a b => pairS vs K (brB vs L l a b) a b (erI vs L l a) (erI vs L l b))
 have e2 : ∀ a b : Nat, pairS vs K (brB vs L l a b) a b (erI vs L l a) (erI vs L l b) ↔ ((a : Int) ∈ L → (b : Int) ∈ L → plI vs a l = plI vs b l → alS vs K (a, 0) (b, 0)) := fun a b => by
  unfold pairS
  rw [er_pos, er_pos]
  unfold brB
  rw [decide_eq_true_iff, pl_pl, pl_pl]
  constructor
  ·intro h ha hb e
   rcases h ha hb with h | h
   ·exact absurd e h.2.2
   ·exact h
  ·intro h ha hb
   by_cases e : plI vs a l = plI vs b l
   ·exact .inr (h ha hb e)
   ·exact .inl ⟨ha, hb, e⟩
 rw [e1]
 have al : ∀ {a b : Nat}, (a : Int) ∈ L → (b : Int) ∈ L → (alS vs K (a, 0) (b, 0) ↔ dT (vAt vs a) (vAt vs b) K 0 0 = []) := fun {a b} ha hb =>
  alS_dT (hv _ (vAt_in (hL.nat a ha))) (hv _ (vAt_in (hL.nat b hb))) (hv0 _ (vAt_in (hL.nat a ha))) (hv0 _ (vAt_in (hL.nat b hb)))
 constructor
 ·rintro h i hi k hk ⟨h1, h2⟩
  obtain ⟨a, ea, ha4⟩ := L_nat hn hL (lAt_mem hi)
  obtain ⟨b, eb, hb4⟩ := L_nat hn hL (lAt_mem (show k < L.length by omega))
  have ha : (a : Int) ∈ L := by rw [← ea]; exact lAt_mem hi
  have hb : (b : Int) ∈ L := by rw [← eb]; exact lAt_mem (by omega)
  rw [ea, eb] at h1 h2
  rw [Int.toNat_natCast, Int.toNat_natCast] at h2
  refine h2 ((al ha hb).1 ?_)
  rcases Nat.lt_trichotomy a b with h3 | h3 | h3
  ·exact ((e2 b a).1 (h b a hb4 h3) hb ha h1.symm).symm
  ·subst h3; exact alS.refl _
  ·exact (e2 a b).1 (h a b ha4 h3) ha hb h1
 ·intro h a b ha4 hba
  rw [e2]
  intro ha hb e
  obtain ⟨i, hi, ei⟩ := mem_lAt ha
  obtain ⟨j, hj, ej⟩ := mem_lAt hb
  rcases Nat.lt_trichotomy i j with h3 | h3 | h3
  ·refine alS.symm ((al hb ha).2 ?_)
   have := h j hj i h3
   rw [ei, ej, Int.toNat_natCast, Int.toNat_natCast] at this
   exact Classical.byContradiction fun h4 => this ⟨e.symm, h4⟩
  ·subst h3
   rw [ei] at ej
   have : a = b := by omega
   subst this
   exact alS.refl _
  ·refine (al ha hb).2 ?_
   have := h i hi j h3
   rw [ei, ej, Int.toNat_natCast, Int.toNat_natCast] at this
   exact Classical.byContradiction fun h4 => this ⟨e, h4⟩
end
end Go.Vm

namespace Go.Vm
def goI (f : Nat → List Nat → Option (List Nat)) (K : Nat) : Nat → List Nat → Option (List Nat)
 | 0, _ => none
 | d + 1, pre => match f d (pre ++ [K - (d + 1)]) with
  | some l => some l
  | none => goI f K d pre
def firstI (ok : List Nat → Bool) (K : Nat) : Nat → Nat → List Nat → Option (List Nat)
 | 0, _, pre => if ok pre = true then some pre else none
 | m + 1, d, pre => goI (firstI ok K m) K d pre
def From (a K : Nat) (u : List Nat) : Prop := Inc u ∧ ∀ x ∈ u, a ≤ x ∧ x < K
theorem From.cons {a K x : Nat} {u : List Nat} (h : From (x + 1) K u) (hx : a ≤ x ∧ x < K) : From a K (x :: u) := by
 refine ⟨h.1.cons fun z hz => by have := (h.2 z hz).1; omega, fun z hz => ?_⟩
 rcases List.mem_cons.1 hz with rfl | hz
 ·exact hx
 ·have := h.2 z hz; omega
theorem From.tail {a K x : Nat} {u : List Nat} (h : From a K (x :: u)) : (a ≤ x ∧ x < K) ∧ From (x + 1) K u :=
 ⟨h.2 x (by simp), h.1.tail, fun z hz => ⟨h.1.head z hz, (h.2 z (by simp [hz])).2⟩⟩
structure Fst (ok : List Nat → Bool) (K a m : Nat) (pre : List Nat) (o : Option (List Nat)) : Prop where
 yes : ∀ l, o = some l → ∃ u, l = pre ++ u ∧ u.length = m ∧ From a K u ∧ ok (pre ++ u) = true ∧ ∀ w, w.length = m → From a K w → ok (pre ++ w) = true → u = w ∨ Lx u w
 no : o = none → ∀ w, w.length = m → From a K w → ¬ ok (pre ++ w) = true
theorem firstI_right {ok : List Nat → Bool} {K : Nat} : ∀ (m d : Nat) (pre : List Nat), d ≤ K → Fst ok K (K - d) m pre (firstI ok K m d pre)
 | 0, d, pre, _ => by
  unfold firstI
  refine ⟨fun l e => ?_, fun e => ?_⟩
  ·split at e
   ·rename_i h
    cases e
    exact ⟨[], by simp, rfl, ⟨trivial, fun x hx => by cases hx⟩, by simpa using h, fun w hw _ _ => .inl (List.length_eq_zero_iff.1 hw).symm⟩
   ·cases e
  ·split at e
   ·cases e
   ·rename_i h
    intro w hw _
    rw [List.length_eq_zero_iff.1 hw]
    simpa using h
 | m + 1, 0, pre, _ => by
  show Fst ok K (K - 0) (m + 1) pre none
  refine ⟨fun l e => (by cases e), fun _ w hw hf => ?_⟩
  match w, hw with
  | x :: w, _ =>
   have := (hf.tail).1
   omega
 | m + 1, d + 1, pre, hd => by
  have h1 := firstI_right (ok := ok) (K := K) m d (pre ++ [K - (d + 1)]) (by omega)
  have h2 := firstI_right (ok := ok) (K := K) (m + 1) d pre (by omega)
  have e : firstI ok K (m + 1) (d + 1) pre = match firstI ok K m d (pre ++ [K - (d + 1)]) with
   | some l => some l
   | none => firstI ok K (m + 1) d pre := rfl
  rw [e]
  have ek : K - (d + 1) + 1 = K - d := by omega
  cases h : firstI ok K m d (pre ++ [K - (d + 1)]) with
  | some l =>
   rw [h] at h1
   refine ⟨fun l' e => ?_, fun e => (by cases e)⟩
   cases e
   obtain ⟨u, e1, e2, e3, e4, e5⟩ := h1.yes l rfl
   refine ⟨(K - (d + 1)) :: u, by rw [e1]; simp, by simp [e2], From.cons (by rw [ek]; exact e3) (by omega), by simpa using e4, fun w hw hf hk => ?_⟩
   match w, hw with
   | x :: w, hw =>
    obtain ⟨hx, hf'⟩ := hf.tail
    rcases Nat.lt_or_ge (K - (d + 1)) x with h6 | h6
    ·exact .inr (.inl h6)
    ·have : x = K - (d + 1) := by omega
     subst this
     rw [ek] at hf'
     rcases e5 w (by simpa using hw) hf' (by simpa using hk) with rfl | h7
     ·exact .inl rfl
     ·exact .inr (.inr ⟨rfl, h7⟩)
  | none =>
   rw [h] at h1
   have hn : ∀ w, w.length = m + 1 → From (K - (d + 1)) K w → ok (pre ++ w) = true → From (K - d) K w := fun w hw hf hk => by
    match w, hw with
    | x :: w, hw =>
     obtain ⟨hx, hf'⟩ := hf.tail
     by_cases h6 : x = K - (d + 1)
     ·subst h6
      rw [ek] at hf'
      exact absurd (by simpa using hk) (h1.no rfl w (by simpa using hw) hf')
     ·exact hf'.cons (by omega)
   refine ⟨fun l e => ?_, fun e w hw hf hk => ?_⟩
   ·obtain ⟨u, e1, e2, e3, e4, e5⟩ := h2.yes l e
    exact ⟨u, e1, e2, ⟨e3.1, fun x hx => by have := e3.2 x hx; omega⟩, e4, fun w hw hf hk => e5 w hw (hn w hw hf hk) hk⟩
   ·exact h2.no e w hw (hn w hw hf hk) hk
def planI (ok : List Nat → Bool) (K : Nat) : Nat → Option (List Nat)
 | 0 => none
 | r + 1 => match firstI ok K (K - r) K [] with
  | some l => some l
  | none => planI ok K r
theorem inc_short {K : Nat} {u : List Nat} (h : From 0 K u) : u.length ≤ K := by
 have key : ∀ (u : List Nat) (a : Nat), From a K u → a ≤ K → u.length ≤ K - a := fun u => by
  induction u with
  | nil => intro a _ _; simp
  | cons x u ih =>
   intro a h ha
   obtain ⟨hx, h'⟩ := h.tail
   have := ih (x + 1) h' (by omega)
   simp
   omega
 exact key u 0 h (Nat.zero_le _)
theorem planI_right {ok : List Nat → Bool} {K : Nat} : ∀ r, r ≤ K + 1 → (∀ l, planI ok K r = some l → From 0 K l ∧ ok l = true ∧ ∀ u, K + 1 - r ≤ u.length → From 0 K u → ok u = true → LE l u) ∧ (planI ok K r = none → ∀ u, K + 1 - r ≤ u.length → From 0 K u → ¬ ok u = true)
 | 0, _ => ⟨fun l e => (by cases e), fun _ u hu hf => by have := inc_short hf; omega⟩
 | r + 1, hr => by
  have h1 := firstI_right (ok := ok) (K := K) (K - r) K [] (Nat.le_refl _)
  rw [Nat.sub_self] at h1
  obtain ⟨h2, h3⟩ := planI_right (ok := ok) (K := K) r (by omega)
  have e : planI ok K (r + 1) = match firstI ok K (K - r) K [] with
   | some l => some l
   | none => planI ok K r := rfl
  rw [e]
  cases h : firstI ok K (K - r) K [] with
  | some l =>
   rw [h] at h1
   refine ⟨fun l' e => ?_, fun e => (by cases e)⟩
   cases e
   obtain ⟨u, e1, e2, e3, e4, e5⟩ := h1.yes l rfl
   rw [List.nil_append] at e1 e4
   subst e1
   refine ⟨e3, e4, fun w hw hf hk => ?_⟩
   rcases Nat.lt_or_ge l.length w.length with h6 | h6
   ·exact .inl (.inl h6)
   ·rcases e5 w (by omega) hf hk with rfl | h7
    ·exact .inr rfl
    ·exact .inl (.inr ⟨by omega, h7⟩)
  | none =>
   rw [h] at h1
   have hn : ∀ u, K + 1 - (r + 1) ≤ u.length → From 0 K u → ok u = true → K + 1 - r ≤ u.length := fun u hu hf hk => by
    by_cases h6 : u.length = K - r
    ·exact absurd (by simpa using hk) (h1.no rfl u h6 hf)
    ·omega
   exact ⟨fun l e => by
    obtain ⟨a, b, c⟩ := h2 l e
    exact ⟨a, b, fun u hu hf hk => c u (hn u hu hf hk) hf hk⟩, fun e u hu hf hk => h3 e u (hn u hu hf hk) hf hk⟩
def atI (r : List Int) (c : Nat) : Int := r.getD c 0
def tmV (r : List Int) : Vers := [r.map fun t => ((0 : Int), t)]
def tmVs (S : List (List Int)) : List Vers := S.map tmV
theorem mv_tm (r : List Int) (c : Nat) : mv (tmV r) 0 c = (0, atI r c) := by
 unfold mv tmV atI
 simp only [List.getD, List.getElem?_cons_zero, Option.getD_some, List.getElem?_map]
 cases r[c]? <;> rfl
theorem plays_tm (r : List Int) : ∀ l : List Nat, plays (tmV r) 0 (cuesI l) = l.map (atI r)
 | [] => rfl
 | c :: l => by
  show (mv (tmV r) 0 (c : Int).toNat).2 :: plays (tmV r) (mv (tmV r) 0 (c : Int).toNat).1.toNat (cuesI l) = _
  rw [Int.toNat_natCast, mv_tm]
  show atI r c :: plays (tmV r) 0 (cuesI l) = _
  rw [plays_tm]
  rfl
theorem tmVs_at {S : List (List Int)} {n : Nat} (h : n < S.length) : (tmVs S).getD n [] = tmV (S.getD n []) := by
 simp [tmVs, List.getD, List.getElem?_map, List.getElem?_eq_getElem h]
theorem plN_tm {S : List (List Int)} {n : Nat} (h : n < S.length) (l : List Nat) : plN (tmVs S) n l = l.map (atI (S.getD n [])) := by
 unfold plN
 rw [tmVs_at h, plays_tm]
theorem row_same {K : Nat} {r s : List Int} (hr : r.length = K) (hs : s.length = K) (h : ∀ c, c < K → atI r c = atI s c) : r = s := by
 refine List.ext_getElem (by omega) fun i h1 h2 => ?_
 have := h i (by omega)
 unfold atI at this
 rwa [List.getD, List.getD, List.getElem?_eq_getElem h1, List.getElem?_eq_getElem h2] at this
theorem row_list {K : Nat} {r s : List Int} (hr : r.length = K) (hs : s.length = K) : r = s ↔ ∀ l, OkL K l → l.map (atI r) = l.map (atI s) := by
 refine ⟨fun h l _ => by rw [h], fun h => row_same hr hs fun c hc => ?_⟩
 have := h [c] (fun x hx => by simp at hx; omega)
 simpa using this
structure TmOk (S : List (List Int)) (K : Nat) : Prop where
 n : 1 ≤ S.length ∧ S.length ≤ 4
 k : 1 ≤ K ∧ K ≤ 4
 row : ∀ r ∈ S, r.length = K ∧ ∀ x ∈ r, 0 ≤ x ∧ x ≤ 5
def eqOn (S : List (List Int)) (l : List Nat) (a b : Nat) : Bool := l.all fun c => atI (S.getD a []) c == atI (S.getD b []) c
def sepI (S : List (List Int)) (l : List Nat) : Bool := (List.range S.length).all fun a => (List.range S.length).all fun b => decide (b ≤ a) || !eqOn S l a b
theorem eqOn_iff {S : List (List Int)} {l : List Nat} {a b : Nat} : eqOn S l a b = true ↔ ∀ c ∈ l, atI (S.getD a []) c = atI (S.getD b []) c := by
 unfold eqOn
 simp
theorem eqOn_map {S : List (List Int)} {l : List Nat} {a b : Nat} : eqOn S l a b = true ↔ l.map (atI (S.getD a [])) = l.map (atI (S.getD b [])) := by
 rw [eqOn_iff]
 constructor
 ·intro h
  exact List.map_congr_left h
 ·intro h c hc
  exact List.map_inj_left.1 h c hc
theorem sepI_iff {S : List (List Int)} {l : List Nat} : sepI S l = true ↔ ∀ a b, a < b → b < S.length → ¬ eqOn S l a b = true := by
 unfold sepI
 simp only [List.all_eq_true, List.mem_range, Bool.or_eq_true, decide_eq_true_eq, Bool.not_eq_true']
 constructor
 ·intro h a b hab hb he
  rcases h a (by omega) b hb with h1 | h1
  ·omega
  ·rw [he] at h1; cases h1
 ·intro h a ha b hb
  by_cases h1 : b ≤ a
  ·exact .inl h1
  ·exact .inr (Bool.eq_false_iff.2 (h a b (by omega) hb))
theorem sepI_mem {S : List (List Int)} {l u : List Nat} (h : ∀ z, z ∈ l ↔ z ∈ u) (hl : sepI S l = true) : sepI S u = true := by
 rw [sepI_iff] at hl ⊢
 intro a b hab hb he
 refine hl a b hab hb ?_
 rw [eqOn_iff] at he ⊢
 exact fun c hc => he c ((h c).1 hc)
theorem tm_some {S : List (List Int)} : ∀ v ∈ tmVs S, 0 < v.length := by
 intro v hv
 obtain ⟨r, hr, rfl⟩ := List.mem_map.1 hv
 simp [tmV]
section
variable {S : List (List Int)} {K : Nat} (h : TmOk S K)
include h
theorem TmOk.at {n : Nat} (hn : n < S.length) : (S.getD n []).length = K ∧ ∀ x ∈ S.getD n [], 0 ≤ x ∧ x ≤ 5 := by
 rw [List.getD, List.getElem?_eq_getElem hn]
 exact h.row _ (List.getElem_mem hn)
theorem TmOk.eqAll {a b : Nat} (ha : a < S.length) (hb : b < S.length) : eqOn S (List.range K) a b = true ↔ S.getD a [] = S.getD b [] := by
 rw [eqOn_iff]
 exact ⟨fun h' => row_same (h.at ha).1 (h.at hb).1 fun c hc => h' c (List.mem_range.2 hc), fun e c _ => by rw [e]⟩
theorem TmOk.vers : ∀ v ∈ tmVs S, VersOk v K := by
 intro v hv
 obtain ⟨r, hr, rfl⟩ := List.mem_map.1 hv
 intro s hs
 simp only [tmV, List.mem_singleton] at hs
 subst hs
 refine ⟨by rw [List.length_map]; exact (h.row r hr).1, fun m hm => ?_⟩
 obtain ⟨t, _, rfl⟩ := List.mem_map.1 hm
 exact ⟨Int.le_refl _, by simp [tmV]⟩
theorem TmOk.dT {a b : Nat} (ha : a < S.length) (hb : b < S.length) : dT (vAt (tmVs S) a) (vAt (tmVs S) b) K 0 0 = [] ↔ S.getD a [] = S.getD b [] := by
 have hl : (tmVs S).length = S.length := by simp [tmVs]
 rw [← alS_dT (h.vers _ (vAt_in (by omega))) (h.vers _ (vAt_in (by omega))) (tm_some _ (vAt_in (by omega))) (tm_some _ (vAt_in (by omega)))]
 have e : ∀ n, n < S.length → ∀ l, trM (stS (tmVs S)) (ouS (tmVs S)) (n, 0) l = l.map (atI (S.getD n [])) := fun n hn l => by
  induction l with
  | nil => rfl
  | cons c l ih =>
   have em : mv (vAt (tmVs S) n) 0 c = (0, atI (S.getD n []) c) := by
    unfold vAt
    rw [tmVs_at hn, mv_tm]
   show ouS (tmVs S) (n, 0) c :: trM (stS (tmVs S)) (ouS (tmVs S)) (stS (tmVs S) (n, 0) c) l = _
   have e1 : ouS (tmVs S) (n, 0) c = atI (S.getD n []) c := by
    show (mv (vAt (tmVs S) n) 0 c).2 = _
    rw [em]
   have e2 : stS (tmVs S) (n, 0) c = (n, 0) := by
    show (n, (mv (vAt (tmVs S) n) 0 c).1.toNat) = _
    rw [em]
    rfl
   rw [e1, e2, ih]
   rfl
 unfold alS
 simp only [e a ha, e b hb]
 exact (row_list (h.at ha).1 (h.at hb).1).symm
omit h in
theorem remL_none {S : List (List Int)} : ∀ r, remL (tmVs S) [] r = (List.range r).map fun n : Nat => (n : Int)
 | 0 => rfl
 | r + 1 => by
  unfold remL
  rw [if_pos (show Agrees ((tmVs S).getD r []) [] from fun e he => by cases he), remL_none r, List.range_succ, List.map_append]
  rfl
theorem TmOk.settles {l : List Nat} (hl : OkL K l) : doneS (tmVs S) K (runB (nextP (tmVs S)) (posRun (tmVs S) (remL (tmVs S) [] (tmVs S).length) []) l) ↔ ∀ a b, a < b → b < S.length → eqOn S l a b = true → S.getD a [] = S.getD b [] := by
 have hlen : (tmVs S).length = S.length := by simp [tmVs]
 have hL : LeftOk (tmVs S) (remL (tmVs S) [] (tmVs S).length) := by
  rw [remL_none]
  refine ⟨fun n hn => ?_, by have := h.n; simp; omega⟩
  obtain ⟨m, hm, rfl⟩ := List.mem_map.1 hn
  have := List.mem_range.1 hm
  omega
 rw [run_pos h.vers tm_some hL.nat l hl, doneS_iff h.vers tm_some (by have := h.n; omega) hL]
 rw [remL_none, hlen]
 have ea : ∀ i, i < S.length → lAt ((List.range S.length).map fun n : Nat => (n : Int)) i = (i : Int) := fun i hi => by
  simp [lAt, List.getD, hi]
 unfold specS
 simp only [List.length_map, List.length_range]
 have ep : ∀ i, i < S.length → plI (tmVs S) (i : Int) l = l.map (atI (S.getD i [])) := fun i hi => by
  have := plN_tm hi l
  unfold plN at this
  unfold plI
  rwa [Int.toNat_natCast]
 constructor
 ·intro h' a b hab hb he
  have := h' b hb a hab
  rw [ea b hb, ea a (by omega), ep b hb, ep a (by omega), Int.toNat_natCast, Int.toNat_natCast] at this
  refine Classical.byContradiction fun hn => this ⟨(eqOn_map.1 he).symm, fun hd => hn ?_⟩
  exact ((h.dT hb (show a < S.length by omega)).1 hd).symm
 ·rintro h' i hi k hk ⟨h1, h2⟩
  rw [ea i hi, ea k (by omega)] at h1 h2
  rw [ep i hi, ep k (by omega)] at h1
  rw [Int.toNat_natCast, Int.toNat_natCast] at h2
  exact h2 ((h.dT hi (show k < S.length by omega)).2 (h' k i hk hi (eqOn_map.2 h1.symm)).symm)
theorem TmOk.settled {o : Option (List Nat)} (hF : Found (nextP (tmVs S)) (doneS (tmVs S) K) (posRun (tmVs S) (remL (tmVs S) [] (tmVs S).length) []) K o) : o ≠ none := by
 intro e
 have hr : OkL K (List.range K) := fun x hx => List.mem_range.1 hx
 exact hF.no e (List.range K) hr ((h.settles hr).2 fun a b hab hb he => (h.eqAll (by omega) hb).1 he)
theorem TmOk.plan {l p : List Nat} (hF : Found (nextP (tmVs S)) (doneS (tmVs S) K) (posRun (tmVs S) (remL (tmVs S) [] (tmVs S).length) []) K (some l)) (hd : ∀ a b, a < b → b < S.length → S.getD a [] ≠ S.getD b []) (hp : planI (sepI S) K (K + 1) = some p) : p = l := by
 obtain ⟨h1, h2, h3⟩ := hF.yes l rfl
 obtain ⟨k1, k2, k3⟩ := (planI_right (ok := sepI S) (K := K) (K + 1) (Nat.le_refl _)).1 p hp
 have e : ∀ u, OkL K u → (doneS (tmVs S) K (runB (nextP (tmVs S)) (posRun (tmVs S) (remL (tmVs S) [] (tmVs S).length) []) u) ↔ sepI S u = true) := fun u hu => by
  rw [h.settles hu, sepI_iff]
  exact ⟨fun h' a b hab hb he => hd a b hab hb (h' a b hab hb he), fun h' a b hab hb he => absurd he (h' a b hab hb)⟩
 exact least_same (c := K) (P := fun u => sepI S u = true) (fun l u hlu hl => sepI_mem hlu hl) h1 ((e l h1).1 h2) (fun u hu hk => h3 u hu ((e u hu).2 hk)) (fun x hx => (k1.2 x hx).2) k2 (fun u hu hi hk => k3 u (by omega) ⟨hi, fun x hx => ⟨Nat.zero_le _, hu x hx⟩⟩ hk)
omit h in
theorem inc_range' : ∀ n s, Inc (List.range' s n)
 | 0, _ => trivial
 | n + 1, s => Inc.cons (inc_range' n (s + 1)) fun z hz => by
  have := List.mem_range'_1.1 hz
  omega
omit h in
theorem inc_range (n : Nat) : Inc (List.range n) := by
 rw [List.range_eq_range']
 exact inc_range' n 0
theorem TmOk.plan_none : planI (sepI S) K (K + 1) = none ↔ ∃ a b, a < b ∧ b < S.length ∧ S.getD a [] = S.getD b [] := by
 obtain ⟨k1, k2⟩ := planI_right (ok := sepI S) (K := K) (K + 1) (Nat.le_refl _)
 constructor
 ·intro e
  have hr : From 0 K (List.range K) := ⟨inc_range K, fun x hx => ⟨Nat.zero_le _, List.mem_range.1 hx⟩⟩
  refine Classical.byContradiction fun hn => k2 e (List.range K) (by omega) hr (sepI_iff.2 fun a b hab hb he => hn ⟨a, b, hab, hb, (h.eqAll (by omega) hb).1 he⟩)
 ·rintro ⟨a, b, hab, hb, e⟩
  cases hp : planI (sepI S) K (K + 1) with
  | none => rfl
  | some p =>
   have := sepI_iff.1 (k1 p hp).2.1 a b hab hb
   exact absurd (eqOn_iff.2 fun c _ => by rw [e]) this
theorem TmOk.tells {i k : Nat} (hik : i < k) (hk : k < S.length) {o : Option (List Nat)} (hF : Found (nextP (tmVs S)) (fun p => doneP p = true) (begP i k) K o) : o = none ↔ S.getD i [] = S.getD k [] := by
 have hn := h.n
 have hlen : (tmVs S).length = S.length := by simp [tmVs]
 have hL : ∀ n : Nat, (n : Int) ∈ [(i : Int), (k : Int)] → n < (tmVs S).length := fun n hn => by
  simp at hn
  omega
 have e : ∀ u, OkL K u → (doneP (runB (nextP (tmVs S)) (begP i k) u) = true ↔ u.map (atI (S.getD i [])) ≠ u.map (atI (S.getD k []))) := fun u hu => by
  rw [begP_run (tmVs S), run_pos h.vers tm_some hL u hu, done_two (by omega) (by omega) (by omega), Int.toNat_natCast, Int.toNat_natCast, plN_tm (by omega), plN_tm hk]
 rw [row_list (h.at (show i < S.length by omega)).1 (h.at hk).1]
 constructor
 ·intro e1 u hu
  exact Classical.byContradiction fun h1 => hF.no e1 u hu ((e u hu).2 h1)
 ·intro h1
  cases o with
  | none => rfl
  | some l =>
   obtain ⟨h2, h3, _⟩ := hF.yes l rfl
   exact absurd (h1 l h2) ((e l h2).1 h3)
end
def pairF (ok : Nat → Nat → Bool) (i : Nat) : Nat → Option (Nat × Nat)
 | 0 => none
 | k + 1 => match pairF ok i k with
  | some p => some p
  | none => if i < k ∧ ok i k = true then some (i, k) else none
def preF (ok : Nat → Nat → Bool) (n : Nat) : Nat → Option (Nat × Nat)
 | 0 => none
 | r + 1 => match preF ok n r with
  | some p => some p
  | none => pairF ok r n
def oneI : Option (Nat × Nat) → Int
 | some p => p.1
 | none => -1
def othI : Option (Nat × Nat) → Int
 | some p => p.2
 | none => -1
def thenF (o o' : Option (Nat × Nat)) : Option (Nat × Nat) := match o with
 | some p => some p
 | none => o'
theorem preF_succ (ok : Nat → Nat → Bool) (n r : Nat) : preF ok n (r + 1) = thenF (preF ok n r) (pairF ok r n) := rfl
theorem pairF_low {ok : Nat → Nat → Bool} {i : Nat} : ∀ {k : Nat}, k ≤ i + 1 → pairF ok i k = none
 | 0, _ => rfl
 | k + 1, h => by
  unfold pairF
  rw [pairF_low (k := k) (by omega)]
  exact if_neg fun h' => by omega
theorem pairF_none {ok : Nat → Nat → Bool} {i : Nat} : ∀ {k : Nat}, pairF ok i k = none ↔ ∀ j, i < j → j < k → ¬ ok i j = true
 | 0 => ⟨fun _ j _ h => by omega, fun _ => rfl⟩
 | k + 1 => by
  unfold pairF
  cases h : pairF ok i k with
  | some p =>
   refine ⟨fun e => (by cases e), fun h' => ?_⟩
   rw [pairF_none.2 fun j h1 h2 => h' j h1 (by omega)] at h
   cases h
  | none =>
   have h1 := pairF_none.1 h
   show (if i < k ∧ ok i k = true then some (i, k) else none) = none ↔ _
   constructor
   ·intro e j h2 h3
    by_cases hj : j = k
    ·subst hj
     intro h4
     rw [if_pos ⟨h2, h4⟩] at e
     cases e
    ·exact h1 j h2 (by omega)
   ·intro h'
    exact if_neg fun h2 => h' k h2.1 (by omega) h2.2
theorem preF_none {ok : Nat → Nat → Bool} {n : Nat} : ∀ {r : Nat}, preF ok n r = none ↔ ∀ i k, i < r → i < k → k < n → ¬ ok i k = true
 | 0 => ⟨fun _ i k h => by omega, fun _ => rfl⟩
 | r + 1 => by
  rw [preF_succ]
  cases h : preF ok n r with
  | some p =>
   refine ⟨fun e => (by cases e), fun h' => ?_⟩
   rw [preF_none.2 fun i k h1 h2 h3 => h' i k (by omega) h2 h3] at h
   cases h
  | none =>
   have h1 := preF_none.1 h
   show pairF ok r n = none ↔ _
   rw [pairF_none]
   constructor
   ·intro h' i k h2 h3 h4
    by_cases hi : i = r
    ·subst hi; exact h' k h3 h4
    ·exact h1 i k (by omega) h3 h4
   ·intro h' j h2 h3
    exact h' r j (by omega) h2 h3
theorem pairF_congr {ok ok' : Nat → Nat → Bool} {i : Nat} : ∀ {k : Nat}, (∀ j, i < j → j < k → ok i j = ok' i j) → pairF ok i k = pairF ok' i k
 | 0, _ => rfl
 | k + 1, h => by
  unfold pairF
  rw [pairF_congr (k := k) fun j h1 h2 => h j h1 (by omega)]
  by_cases hk : i < k
  ·rw [h k hk (by omega)]
  ·have e : ∀ f : Nat → Nat → Bool, ¬ (i < k ∧ f i k = true) := fun f h' => hk h'.1
   rw [if_neg (e ok), if_neg (e ok')]
theorem preF_congr {ok ok' : Nat → Nat → Bool} {n : Nat} : ∀ {r : Nat}, (∀ i k, i < r → i < k → k < n → ok i k = ok' i k) → preF ok n r = preF ok' n r
 | 0, _ => rfl
 | r + 1, h => by
  rw [preF_succ, preF_succ, preF_congr (r := r) fun i k h1 h2 h3 => h i k (by omega) h2 h3, pairF_congr fun j h1 h2 => h r j (by omega) h1 h2]
theorem pairF_at {ok : Nat → Nat → Bool} {i : Nat} : ∀ {k : Nat} {p : Nat × Nat}, pairF ok i k = some p → p.1 = i ∧ i < p.2 ∧ p.2 < k
 | 0, _, h => by cases h
 | k + 1, p, h => by
  unfold pairF at h
  cases hr : pairF ok i k with
  | some q =>
   rw [hr] at h
   cases h
   have := pairF_at hr
   exact ⟨this.1, this.2.1, by omega⟩
  | none =>
   rw [hr] at h
   by_cases hk : i < k ∧ ok i k = true
   ·have h : (if i < k ∧ ok i k = true then some (i, k) else none) = some p := h
    rw [if_pos hk] at h
    cases h
    exact ⟨rfl, hk.1, by omega⟩
   ·have h : (if i < k ∧ ok i k = true then some (i, k) else none) = some p := h
    rw [if_neg hk] at h
    cases h
theorem preF_at {ok : Nat → Nat → Bool} {n : Nat} : ∀ {r : Nat} {p : Nat × Nat}, preF ok n r = some p → p.1 < r ∧ p.1 < p.2 ∧ p.2 < n
 | 0, _, h => by cases h
 | r + 1, p, h => by
  rw [preF_succ] at h
  cases hr : preF ok n r with
  | some q =>
   rw [hr] at h
   cases h
   have := preF_at hr
   exact ⟨by omega, this.2⟩
  | none =>
   rw [hr] at h
   have := pairF_at (show pairF ok r n = some p from h)
   omega
end Go.Vm

namespace Go.Vm
open Go.Proofs
def hideL (r : List Int) : List Int := r.map fun t => 10 * t + 10
def regC (K : Nat) (S : List (List Int)) : List AV := [eInts (List.replicate K 1), eLists (S.map hideL), n' 1000, n' 1000, n' 1000, n' 1000, n' 1, n' 0]
def eReg (K : Nat) (S : List (List Int)) : AV := .agg (regC K S)
def eFound (K : Nat) (S : List (List Int)) (h : Int) : AV := .agg (regC K S ++ [n' h, nilS])
set_option maxRecDepth 100000 in
theorem c_hin (a b c : Int) (H : List Blk) : ACall Tryz.prog 114 [n' a, n' b, n' c] H (.ret (.lit (.bool (decide (b ≤ a ∧ a ≤ c))))) H := by
 refine fn_rule (m := false) (fn := Tryz.f114) (c := (Tryz.f114.body).getD .skip) mixed (by kernel_rfl) (by kernel_rfl) (of_decide_eq_true (by kernel_rfl)) ?_ ?_ ?_ H
 ·exact ⟨trivial, trivial, trivial, trivial⟩
 ·exact trivial
 ·refine If.mk (fun h => ?_) (fun h => ?_)
  ·refine If.mk (fun h2 => ?_) (fun h2 => ?_)
   ·exact ⟨.inl rfl, FinG.yes rfl rfl (⟨h, h2⟩)⟩
   ·exact ⟨.inl rfl, FinG.no rfl rfl (fun e => h2 e.2)⟩
  ·exact ⟨.inl rfl, FinG.no rfl rfl (fun e => h e.1)⟩
set_option maxRecDepth 100000 in
theorem c_kind (H : List Blk) : ACall Tryz.prog 171 [n' 1] H (.ret (n' 0)) H := by
 refine fn_rule (m := false) (fn := Tryz.f171) (c := (Tryz.f171.body).getD .skip) mixed (by kernel_rfl) (by kernel_rfl) (of_decide_eq_true (by kernel_rfl)) ?_ ?_ ?_ H
 ·exact ⟨trivial, trivial⟩
 ·exact trivial
 ·refine Side.mk (by unfold fitsK; kernel_rfl) ?_
  exact ⟨.inl rfl, FinG.mk _ rfl rfl rfl⟩
set_option maxRecDepth 100000 in
theorem c_spans (K : Nat) (S : List (List Int)) (H : List Blk) : ACall Tryz.prog 169 [eReg K S] H (.ret (.agg [n' 1000, n' 1000, n' 1000, n' 1000])) H := by
 refine fn_rule (m := false) (fn := Tryz.f169) (c := (Tryz.f169.body).getD .skip) mixed (by kernel_rfl) (by kernel_rfl) (of_decide_eq_true (by kernel_rfl)) ?_ ?_ ?_ H
 ·exact ⟨⟨under_eInts _ _, under_eLists _ _, trivial, trivial, trivial, trivial, trivial, trivial, trivial⟩, trivial⟩
 ·exact ⟨trivial, trivial, trivial, trivial, trivial⟩
 ·exact ⟨.inl rfl, FinG.mk _ rfl rfl rfl⟩
theorem hide_at {S : List (List Int)} {h : Nat} {r : List Int} (hh : S[h]? = some r) : (S.map hideL)[h]? = some (hideL r) := by rw [List.getElem?_map, hh]; rfl
theorem size_at {r : List Int} {m : Nat} {x : Int} (hm : r[m]? = some x) : (hideL r)[m]? = some (10 * x + 10) := by unfold hideL; rw [List.getElem?_map, hm]; rfl
set_option maxRecDepth 100000 in
theorem c_unchanged {K : Nat} {S : List (List Int)} {h m : Nat} {r : List Int} {x : Int} (hh : S[h]? = some r) (hm : r[m]? = some x) (hx : 0 ≤ x ∧ x ≤ 5) (H : List Blk) : ACall Tryz.prog 170 [eFound K S h, n' m, n' 1000] H (.ret (.agg [n' (10 * x + 9), n' (10 * x + 11)])) H := by
 refine fn_rule (m := false) (fn := Tryz.f170) (c := (Tryz.f170.body).getD .skip) mixed (by kernel_rfl) (by kernel_rfl) (of_decide_eq_true (by kernel_rfl)) ?_ ?_ ?_ H
 ·exact ⟨⟨under_eInts _ _, under_eLists _ _, trivial, trivial, trivial, trivial, trivial, trivial, trivial, trivial, trivial⟩, trivial, trivial, trivial⟩
 ·exact ⟨trivial, trivial, trivial⟩
 ·refine Ex.mk _ (jx_lists (r := h) rfl (hide_at hh)) ?_
  refine Ex.mk _ rfl ?_
  refine Ex.mk _ (jx_ints (r := m) rfl (size_at hm)) ?_
  refine Ex.mk _ rfl ?_
  refine Side.mk (fits64 (by omega)) ?_
  refine Side.mk (by unfold fitsK; kernel_rfl) ?_
  refine Side.mk (fits64 (by omega)) ?_
  refine Side.mk (fits64 (by omega)) ?_
  refine Ex.mk _ rfl ?_
  refine Side.mk (by unfold fitsK; kernel_rfl) ?_
  refine Side.mk (fits64 (by omega)) ?_
  refine Ex.mk _ rfl ?_
  have h6 : x = 0 ∨ x = 1 ∨ x = 2 ∨ x = 3 ∨ x = 4 ∨ x = 5 := by omega
  refine ⟨.inl rfl, FinG.mk _ rfl rfl ?_⟩
  rcases h6 with rfl | rfl | rfl | rfl | rfl | rfl <;> rfl
def iL (r : Nat) : List Int := cuesI (List.range r)
theorem iL_length (r : Nat) : (iL r).length = r := by unfold iL; rw [cuesI_length, List.length_range]
theorem iL_succ (r : Nat) : iL (r + 1) = iL r ++ [(r : Int)] := by unfold iL cuesI; rw [List.range_succ, List.map_append]; rfl
def evA (r : Nat) : AV := .sl (iL r).length ((iL r).map n') (.own 1 (iL r).length 1)
set_option maxRecDepth 100000 in
theorem c_every {K : Nat} {S : List (List Int)} (hK : K ≤ 4) (H : List Blk) : ACall Tryz.prog 65 [eReg K S] H (.ret (eInts (iL K))) H := by
 refine fn_rule (m := false) (fn := Tryz.f65) (c := (Tryz.f65.body).getD .skip) mixed (by kernel_rfl) (by kernel_rfl) (of_decide_eq_true (by kernel_rfl)) ?_ ?_ ?_ H
 ·exact ⟨⟨under_eInts _ _, under_eLists _ _, trivial, trivial, trivial, trivial, trivial, trivial, trivial⟩, trivial⟩
 ·exact under_eInts _ _
 ·refine LoopG.ghost (LoopG.at (n0 := 2) rfl ?_)
  refine loop_up mixed (m := false) (fun r => [(3, evA r), (7, n' K), (8, n' r)]) (fun r => [(1, .row (iL r).length)]) (fun _ => True) K 1 (leb rfl) trivial ?_ ?_ ?_
  ·exact ⟨⟨_, rfl, Weak.own (r := 1) (g := 0) 1 rfl, ⟨trivial, ltb rfl⟩⟩, ⟨_, rfl, Weak.of_eq (congrArg n' (by rw [List.length_replicate])), trivial⟩, wp rfl trivial, trivial⟩
  ·exact ⟨bk rfl rfl, trivial⟩
  ·intro r hr _
   have hl := iL_length r
   refine If.mk (fun h1 => ?_) (fun h1 => ?_)
   ·refine ifY ?_
    refine ex_app _ _ (app_int (List.length_map _) (by omega) rfl) ?_
    refine Side.mk (fits64 (by omega)) ?_
    refine ⟨leb rfl, rfl, by omega, trivial, ⟨⟨_, rfl, Weak.of_eq (?_), ⟨under_ints _ _, ltb rfl⟩⟩, wp rfl trivial, wp rfl trivial, trivial⟩, ⟨⟨?_, ltb rfl⟩, trivial⟩, ⟨_, rfl, trivial⟩, trivial⟩
    ·unfold evA; rw [iL_succ, List.length_append, List.map_append]; rfl
    ·show some (Blk.row ((iL r).length + 1)) = some (Blk.row (iL (r + 1)).length)
     rw [iL_succ, List.length_append]; rfl
   ·refine ifN ?_
    have er : r = K := by omega
    subst er
    refine ⟨leb rfl, .inl rfl, FinG.mk _ rfl rfl ?_⟩
    show AV.sl _ (AV.freezes _ ((iL r).map n')) .unk = _
    rw [freezes_ints]
    rfl
end Go.Vm

namespace Go.Vm
open Go.Proofs
def cntD (r s : List Int) (l : List Nat) : Nat := (l.filter fun c => atI r c != atI s c).length
def apT (K : Nat) (S : List (List Int)) (a b : Nat) (l : List Nat) (m : Int) : List (Nat × Blk) :=
 [(0, .box (regC K S) 63), (1, .box [eInts (cuesI l)] 30), (2, .box [n' 0] 3), (9, .box (regC K S ++ [n' a, nilS]) 245), (10, .box (regC K S ++ [n' b, nilS]) 245), (13, .box [n' m] 3), (14, .defd), (15, .defd), (16, .defd), (17, .defd), (18, .defd), (19, .box [n' 1000, n' 1000] 26)]
def apS : List (Nat × AV) := [(5, .ptr 0 0), (8, .ptr 1 0), (9, .ptr 2 0), (11, .ptr 9 0), (12, .ptr 10 0), (13, .ptr 13 0)]
noncomputable def ap1 (st : LoopState) : Blk := lpB Tryz.f122 st (apS ++ [(31, .fn (.func 189) [] [.ptr 19 0])]) 20
noncomputable def lpI (fn : Func) (st : LoopState) (S : List (Nat × AV)) (d : Nat) : Blk :=
 .loop ⟨st, none, fn.ntmps, ofL S, ((rgn ((rgn (fn.body.getD .skip)).getD (#[], .skip, .skip)).2.2).getD (#[], .skip, .skip)).1, ((rgn ((rgn (fn.body.getD .skip)).getD (#[], .skip, .skip)).2.2).getD (#[], .skip, .skip)).2.1, ((rgn ((rgn (fn.body.getD .skip)).getD (#[], .skip, .skip)).2.2).getD (#[], .skip, .skip)).2.2, d⟩
noncomputable def ap2 (st : LoopState) : Blk := lpI Tryz.f122 st (apS ++ [(14, .ptr 22 0), (37, .fn (.func 189) [] [.ptr 28 0])]) 20
noncomputable def apI (K : Nat) (S : List (List Int)) (a b : Nat) (l : List Nat) (m : Int) : List (Nat × Blk) := apT K S a b l m ++ [(20, .defd), (21, ap1 .busy), (22, .box [n' 1000] 3), (23, .defd), (24, .defd), (25, .defd), (26, .defd), (27, .defd), (28, .box [n' 1000, n' 1000] 26)]
theorem cntD_succ {r s : List Int} {l : List Nat} {q : Nat} (h : q < l.length) : cntD r s (l.take (q + 1)) = cntD r s (l.take q) + (if atI r l[q] = atI s l[q] then 0 else 1) := by
 unfold cntD
 rw [List.take_succ_eq_append_getElem h, List.filter_append, List.length_append]
 by_cases e : atI r l[q] = atI s l[q]
 ·simp [e]
 ·simp [e]
theorem cntD_le (r s : List Int) (l : List Nat) : cntD r s l ≤ l.length := List.length_filter_le _ _
theorem under_ap1 (st : LoopState) : (ap1 st).under 22 := under_lpB ⟨ltb rfl, ltb rfl, ltb rfl, ltb rfl, ltb rfl, ltb rfl, ⟨trivial, ltb rfl, trivial⟩, trivial⟩ (ltb rfl)
theorem under_ap1b (st : LoopState) : (ap1 st).under 30 := under_lpB ⟨ltb rfl, ltb rfl, ltb rfl, ltb rfl, ltb rfl, ltb rfl, ⟨trivial, ltb rfl, trivial⟩, trivial⟩ (ltb rfl)
theorem under_ap2 (st : LoopState) : (ap2 st).under 30 := under_loop ⟨ltb rfl, ltb rfl, ltb rfl, ltb rfl, ltb rfl, ltb rfl, ltb rfl, ⟨trivial, ltb rfl, trivial⟩, trivial⟩ (ltb rfl)
theorem ix_kinds {l : List Int} {tl : Tail} {i : Int} {r : Nat} (hi : i = r) (h : r < l.length) : indexOp Tryz.prog 61 (.sl l.length (l.map n') tl) (.lit (.int .i64 i)) = some (.eptr [n' l[r]]) :=
 ix_one (P := Tryz.prog) (e := 64) (f := n') (by kernel_rfl) (by kernel_rfl) hi h
theorem jx_kinds {K : Nat} {tl : Tail} {i : Int} {r : Nat} (hi : i = r) (h : r < K) : indexOp Tryz.prog 61 (.sl (List.replicate K (1 : Int)).length ((List.replicate K (1 : Int)).map n') tl) (.lit (.int .i64 i)) = some (.eptr [n' 1]) := by
 rw [ix_kinds hi (by rw [List.length_replicate]; exact h), List.getElem_replicate]
theorem size_row {K c : Nat} {r : List Int} (hr : r.length = K ∧ ∀ x ∈ r, 0 ≤ x ∧ x ≤ 5) (hc : c < K) : r[c]? = some (atI r c) ∧ 0 ≤ atI r c ∧ atI r c ≤ 5 := by
 have hlt : c < r.length := by omega
 have e : atI r c = r[c] := by unfold atI; rw [List.getD, List.getElem?_eq_getElem hlt]; rfl
 rw [e]
 exact ⟨List.getElem?_eq_getElem hlt, hr.2 _ (List.getElem_mem hlt)⟩
set_option maxHeartbeats 4000000 in
set_option maxRecDepth 100000 in
theorem c_apart0 {K : Nat} {S : List (List Int)} {a b : Nat} {r s : List Int} (ha : S[a]? = some r) (hb : S[b]? = some s) {l : List Nat} (hl : l.length ≤ 4) (hlK : ∀ c ∈ l, c < K) (hr : r.length = K ∧ ∀ x ∈ r, 0 ≤ x ∧ x ≤ 5) (hs : s.length = K ∧ ∀ x ∈ s, 0 ≤ x ∧ x ≤ 5) (H : List Blk) : ACall Tryz.prog 122 [eReg K S, n' a, n' b, eInts (cuesI l), n' 0] H (.ret (n' (cntD r s l))) H := by
 have hR : ∀ c, c < K → _ := fun c hc => size_row (c := c) hr hc
 have hS : ∀ c, c < K → _ := fun c hc => size_row (c := c) hs hc
 refine fn_ruleM (m := false) (fn := Tryz.f122) (c := (Tryz.f122.body).getD .skip) mixed (by kernel_rfl) (by kernel_rfl) (of_decide_eq_true (by kernel_rfl)) ?_ ?_ ?_ H
 ·exact ⟨⟨under_eInts _ _, under_eLists _ _, trivial, trivial, trivial, trivial, trivial, trivial, trivial⟩, trivial, trivial, under_eInts _ _, trivial, trivial⟩
 ·exact trivial
 ·refine PickW.mk [9, 10] ?_
  refine CallG.pure _ (c_spans K S) ?_
  refine Ex.mk _ rfl ?_
  refine CallG.inlineP (m := false) (fn := Tryz.f168) (c := (Tryz.f168.body).getD .skip) mixed (by kernel_rfl) (by kernel_rfl) (of_decide_eq_true (by kernel_rfl)) ?_
  refine .inl ⟨.inl rfl, _, rfl, rfl, ?_⟩
  refine RangeG.fresh (n0 := 20) (apS ++ [(31, .fn (.func 189) [] [.ptr 19 0])]) (apT K S a b l 6) rfl ?_ ?_ ?_
  ·exact ⟨⟨_, rfl, Weak.refl _ _⟩, ⟨_, rfl, Weak.refl _ _⟩, ⟨_, rfl, Weak.refl _ _⟩, ⟨_, rfl, Weak.refl _ _⟩, ⟨_, rfl, Weak.refl _ _⟩, ⟨_, rfl, Weak.refl _ _⟩, ⟨_, rfl, Weak.refl _ _⟩, trivial⟩
  ·exact ⟨bk rfl rfl, bk rfl rfl, bk rfl rfl, bk rfl rfl, bk rfl rfl, bk rfl rfl, bk rfl rfl, bk rfl rfl, bk rfl rfl, bk rfl rfl, bk rfl rfl, bk rfl rfl, trivial⟩
  refine RangeG.after ?_
  refine RangeG.outer (f := 189) (first := []) (captured := [.ptr 19 0]) rfl rfl rfl ?_
  refine CallG.inlineP (m := false) (fn := Tryz.f189) (c := (Tryz.f189.body).getD .skip) mixed (by kernel_rfl) (by kernel_rfl) (of_decide_eq_true (by kernel_rfl)) ?_
  refine loop_up mixed (m := false) (fun q => [(0, .yld 21), (1, .ptr 19 0), (3, n' (1000 + q : Nat))]) (fun q => apT K S a b l (if q = 0 then 6 else cntD r s l) ++ [(20, .defd), (21, ap1 .ready)]) (fun _ => True) 1 13 (leb rfl) trivial ?_ ?_ ?_
  ·exact ⟨wp rfl (ltb rfl), wp rfl (ltb rfl), wp rfl trivial, trivial⟩
  ·exact ⟨bk rfl rfl, bk rfl rfl, bk rfl rfl, bk rfl rfl, bk rfl rfl, bk rfl rfl, bk rfl rfl, bk rfl rfl, bk rfl rfl, bk rfl rfl, bk rfl rfl, bk rfl rfl, bk rfl rfl, bk rfl rfl, trivial⟩
  intro q hq _
  have hq2 : q = 0 ∨ q = 1 := by omega
  rcases hq2 with rfl | rfl
  ·refine If.mk (fun _ => ?_) (fun h => absurd (by decide) h)
   refine ifY ?_
   refine RoundG.fresh (n0 := 22) (apT K S a b l 6 ++ [(20, .defd), (21, ap1 .ready)]) rfl ?_ ?_
   ·exact ⟨bk rfl rfl, bk rfl rfl, bk rfl rfl, bk rfl rfl, bk rfl rfl, bk rfl rfl, bk rfl rfl, bk rfl rfl, bk rfl rfl, bk rfl rfl, bk rfl rfl, bk rfl rfl, bk rfl rfl, bk rfl rfl, trivial⟩
   refine RoundG.introF (m := false) mixed rfl rfl (by decide) ?_
   refine ⟨rfl, _, rfl, rfl, apS ++ [(14, .ptr 22 0)], apT K S a b l 6 ++ [(20, .defd), (21, ap1 .busy), (22, .box [n' 1000] 3)], 23, rfl, ?_, ?_, ?_⟩
   ·exact ⟨⟨_, rfl, Weak.refl _ _⟩, ⟨_, rfl, Weak.refl _ _⟩, ⟨_, rfl, Weak.refl _ _⟩, ⟨_, rfl, Weak.refl _ _⟩, ⟨_, rfl, Weak.refl _ _⟩, ⟨_, rfl, Weak.refl _ _⟩, ⟨_, rfl, Weak.refl _ _⟩, trivial⟩
   ·exact ⟨bk rfl rfl, bk rfl rfl, bk rfl rfl, bk rfl rfl, bk rfl rfl, bk rfl rfl, bk rfl rfl, bk rfl rfl, bk rfl rfl, bk rfl rfl, bk rfl rfl, bk rfl rfl, bk rfl rfl, bk rfl rfl, bk rfl rfl, trivial⟩
   refine CallG.pure _ (c_spans K S) ?_
   refine Ex.mk _ rfl ?_
   refine CallG.inlineP (m := false) (fn := Tryz.f168) (c := (Tryz.f168.body).getD .skip) mixed (by kernel_rfl) (by kernel_rfl) (of_decide_eq_true (by kernel_rfl)) ?_
   refine .inl ⟨.inl rfl, _, rfl, rfl, ?_⟩
   refine RangeG.fresh (n0 := 29) (apS ++ [(14, .ptr 22 0), (37, .fn (.func 189) [] [.ptr 28 0])]) (apI K S a b l 6) rfl ?_ ?_ ?_
   ·exact ⟨⟨_, rfl, Weak.refl _ _⟩, ⟨_, rfl, Weak.refl _ _⟩, ⟨_, rfl, Weak.refl _ _⟩, ⟨_, rfl, Weak.refl _ _⟩, ⟨_, rfl, Weak.refl _ _⟩, ⟨_, rfl, Weak.refl _ _⟩, ⟨_, rfl, Weak.refl _ _⟩, ⟨_, rfl, Weak.refl _ _⟩, trivial⟩
   ·exact ⟨bk rfl rfl, bk rfl rfl, bk rfl rfl, bk rfl rfl, bk rfl rfl, bk rfl rfl, bk rfl rfl, bk rfl rfl, bk rfl rfl, bk rfl rfl, bk rfl rfl, bk rfl rfl, bk rfl rfl, bk rfl rfl, bk rfl rfl, bk rfl rfl, bk rfl rfl, bk rfl rfl, bk rfl rfl, bk rfl rfl, bk rfl rfl, trivial⟩
   refine RangeG.after ?_
   refine RangeG.inner (ido := 21) (f := 189) (first := []) (captured := [.ptr 28 0]) rfl rfl rfl rfl ?_
   refine CallG.inlineP (m := false) (fn := Tryz.f189) (c := (Tryz.f189.body).getD .skip) mixed (by kernel_rfl) (by kernel_rfl) (of_decide_eq_true (by kernel_rfl)) ?_
   refine loop_up mixed (m := false) (fun q => [(0, .yld 29), (1, .ptr 28 0), (3, n' (1000 + q : Nat))]) (fun q => apI K S a b l (if q = 0 then 6 else cntD r s l) ++ [(29, ap2 .ready)]) (fun _ => True) 1 13 (leb rfl) trivial ?_ ?_ ?_
   ·exact ⟨wp rfl (ltb rfl), wp rfl (ltb rfl), wp rfl trivial, trivial⟩
   ·exact ⟨bk rfl rfl, bk rfl rfl, bk rfl rfl, bk rfl rfl, bk rfl rfl, bk rfl rfl, bk rfl rfl, bk rfl rfl, bk rfl rfl, bk rfl rfl, bk rfl rfl, bk rfl rfl, bk rfl rfl, bk rfl rfl, bk rfl rfl, bk rfl rfl, bk rfl rfl, bk rfl rfl, bk rfl rfl, bk rfl rfl, bk rfl rfl, bk rfl rfl, trivial⟩
   intro q hq _
   have hq2 : q = 0 ∨ q = 1 := by omega
   rcases hq2 with rfl | rfl
   ·refine If.mk (fun _ => ?_) (fun h => absurd (by decide) h)
    refine ifY ?_
    refine RoundG.fresh (n0 := 30) (apI K S a b l 6 ++ [(29, ap2 .ready)]) rfl ?_ ?_
    ·exact ⟨bk rfl rfl, bk rfl rfl, bk rfl rfl, bk rfl rfl, bk rfl rfl, bk rfl rfl, bk rfl rfl, bk rfl rfl, bk rfl rfl, bk rfl rfl, bk rfl rfl, bk rfl rfl, bk rfl rfl, bk rfl rfl, bk rfl rfl, bk rfl rfl, bk rfl rfl, bk rfl rfl, bk rfl rfl, bk rfl rfl, bk rfl rfl, bk rfl rfl, trivial⟩
    refine RoundG.introF (m := false) mixed rfl rfl (by decide) ?_
    refine ⟨rfl, _, rfl, rfl, apS ++ [(14, .ptr 22 0), (15, n' 1000)], apI K S a b l 6 ++ [(29, ap2 .busy)], 30, rfl, ?_, ?_, ?_⟩
    ·exact ⟨⟨_, rfl, Weak.refl _ _⟩, ⟨_, rfl, Weak.refl _ _⟩, ⟨_, rfl, Weak.refl _ _⟩, ⟨_, rfl, Weak.refl _ _⟩, ⟨_, rfl, Weak.refl _ _⟩, ⟨_, rfl, Weak.refl _ _⟩, ⟨_, rfl, Weak.refl _ _⟩, ⟨_, rfl, Weak.refl _ _⟩, trivial⟩
    ·exact ⟨bk rfl rfl, bk rfl rfl, bk rfl rfl, bk rfl rfl, bk rfl rfl, bk rfl rfl, bk rfl rfl, bk rfl rfl, bk rfl rfl, bk rfl rfl, bk rfl rfl, bk rfl rfl, bk rfl rfl, bk rfl rfl, bk rfl rfl, bk rfl rfl, bk rfl rfl, bk rfl rfl, bk rfl rfl, bk rfl rfl, bk rfl rfl, bk rfl rfl, trivial⟩
    refine loop_up mixed (m := false) (fun q => apS ++ [(14, .ptr 22 0), (15, n' 1000), (16, n' (cntD r s (l.take q))), (39, eInts (cuesI l)), (40, n' l.length), (41, n' q)]) (fun _ => apI K S a b l 6 ++ [(29, ap2 .busy)]) (fun _ => True) l.length 29 (leb rfl) trivial ?_ ?_ ?_
    ·exact ⟨wp rfl (ltb rfl), wp rfl (ltb rfl), wp rfl (ltb rfl), wp rfl (ltb rfl), wp rfl (ltb rfl), wp rfl (ltb rfl), wp rfl (ltb rfl), wp rfl trivial, wp rfl trivial, ⟨_, rfl, Weak.refl _ _, under_eInts _ _⟩, ⟨_, rfl, Weak.of_eq (congrArg n' (by rw [cuesI_length])), trivial⟩, wp rfl trivial, trivial⟩
    ·exact ⟨bk rfl rfl, bk rfl rfl, bk rfl rfl, bk rfl rfl, bk rfl rfl, bk rfl rfl, bk rfl rfl, bk rfl rfl, bk rfl rfl, bk rfl rfl, bk rfl rfl, bk rfl rfl, bk rfl rfl, bk rfl rfl, bk rfl rfl, bk rfl rfl, bk rfl rfl, bk rfl rfl, bk rfl rfl, bk rfl rfl, bk rfl rfl, bk rfl rfl, trivial⟩
    intro q hq _
    refine If.mk (fun h1 => ?_) (fun h1 => ?_)
    ·refine ifY ?_
     have hql : q < l.length := by omega
     have hcK := hlK l[q] (List.getElem_mem hql)
     have hc : (cuesI l)[q]? = some ((l[q] : Nat) : Int) := by unfold cuesI; rw [List.getElem?_map, List.getElem?_eq_getElem hql]; rfl
     have hr1 := (hR _ hcK).1
     have hr2 := (hR _ hcK).2
     have hs1 := (hS _ hcK).1
     have hs2 := (hS _ hcK).2
     refine Ex.mk _ (jx_ints (r := q) rfl hc) ?_
     refine Ex.mk _ rfl ?_
     refine CallG.pure _ (c_unchanged ha hr1 hr2) ?_
     refine CallG.pure _ (c_unchanged hb hs1 hs2) ?_
     refine Ex.mk _ (jx_kinds (r := l[q]) rfl hcK) ?_
     refine Ex.mk _ rfl ?_
     refine CallG.pure _ (c_kind) ?_
     refine If.mk (fun _ => ?_) (fun h => absurd (by decide) h)
     have hct : cntD r s (l.take q) ≤ 4 := Nat.le_trans (cntD_le r s _) (by rw [List.length_take]; omega)
     have hcs := cntD_succ (r := r) (s := s) hql
     refine Ex.mk _ rfl ?_
     refine Ex.mk _ rfl ?_
     refine If.mk (fun h2 => ?_) (fun h2 => ?_)
     ·refine ifY ?_
      have hne : atI r l[q] ≠ atI s l[q] := fun e => by
       rw [e] at h2
       simp only [gt_iff_lt, Int.lt_irrefl, if_false] at h2
       omega
      have hT : ((cntD r s (l.take q) : Nat) : Int) + 1 = ((cntD r s (l.take (q + 1)) : Nat) : Int) := by rw [hcs, if_neg hne]; rfl
      refine Side.mk (fits64 (by omega)) ?_
      refine Side.mk (fits64 (by omega)) ?_
      refine ⟨leb rfl, rfl, by omega, trivial, ⟨wp rfl (ltb rfl), wp rfl (ltb rfl), wp rfl (ltb rfl), wp rfl (ltb rfl), wp rfl (ltb rfl), wp rfl (ltb rfl), wp rfl (ltb rfl), wp rfl trivial, ⟨_, rfl, Weak.of_eq (congrArg n' hT), trivial⟩, ⟨_, rfl, Weak.refl _ _, under_eInts _ _⟩, wp rfl trivial, wp rfl trivial, trivial⟩, ⟨bk rfl rfl, bk rfl rfl, bk rfl rfl, bk rfl rfl, bk rfl rfl, bk rfl rfl, bk rfl rfl, bk rfl rfl, bk rfl rfl, bk rfl rfl, bk rfl rfl, bk rfl rfl, bk rfl rfl, bk rfl rfl, bk rfl rfl, bk rfl rfl, bk rfl rfl, bk rfl rfl, bk rfl rfl, bk rfl rfl, bk rfl rfl, bk rfl rfl, trivial⟩, trivial⟩
     ·refine ifN ?_
      have heq : atI r l[q] = atI s l[q] := by
       refine Classical.byContradiction fun e => h2 ?_
       split <;> split <;> omega
      have hT : ((cntD r s (l.take q) : Nat) : Int) = ((cntD r s (l.take (q + 1)) : Nat) : Int) := by rw [hcs, if_pos heq]; rfl
      refine Side.mk (fits64 (by omega)) ?_
      refine ⟨leb rfl, rfl, by omega, trivial, ⟨wp rfl (ltb rfl), wp rfl (ltb rfl), wp rfl (ltb rfl), wp rfl (ltb rfl), wp rfl (ltb rfl), wp rfl (ltb rfl), wp rfl (ltb rfl), wp rfl trivial, ⟨_, rfl, Weak.of_eq (congrArg n' hT), trivial⟩, ⟨_, rfl, Weak.refl _ _, under_eInts _ _⟩, wp rfl trivial, wp rfl trivial, trivial⟩, ⟨bk rfl rfl, bk rfl rfl, bk rfl rfl, bk rfl rfl, bk rfl rfl, bk rfl rfl, bk rfl rfl, bk rfl rfl, bk rfl rfl, bk rfl rfl, bk rfl rfl, bk rfl rfl, bk rfl rfl, bk rfl rfl, bk rfl rfl, bk rfl rfl, bk rfl rfl, bk rfl rfl, bk rfl rfl, bk rfl rfl, bk rfl rfl, bk rfl rfl, trivial⟩, trivial⟩
    ·refine ifN ?_
     have hql : q = l.length := by omega
     subst hql
     have hct : cntD r s (l.take l.length) ≤ 4 := Nat.le_trans (cntD_le r s _) (by rw [List.length_take]; omega)
     refine ⟨leb rfl, ?_⟩
     refine Ex.mk _ rfl ?_
     refine ⟨_, _, rfl, rfl, ?_⟩
     refine ifN ?_
     refine Side.mk (by unfold fitsK; kernel_rfl) ?_
     refine ⟨leb rfl, rfl, by omega, trivial, ⟨wp rfl (ltb rfl), wp rfl (ltb rfl), wp rfl trivial, trivial⟩, ⟨bk rfl rfl, bk rfl rfl, bk rfl rfl, bk rfl rfl, bk rfl rfl, ⟨?_, ltb rfl⟩, bk rfl rfl, bk rfl rfl, bk rfl rfl, bk rfl rfl, bk rfl rfl, bk rfl rfl, bk rfl rfl, bk rfl rfl, bk rfl rfl, bk rfl rfl, bk rfl rfl, bk rfl rfl, bk rfl rfl, bk rfl rfl, bk rfl rfl, bk rfl rfl, trivial⟩, ⟨⟨_, rfl, trivial, trivial⟩, ⟨_, rfl, trivial⟩, ⟨_, rfl, trivial⟩, ⟨_, rfl, trivial⟩, ⟨_, rfl, trivial⟩, ⟨_, rfl, trivial⟩, ⟨_, rfl, trivial, trivial, trivial⟩, ⟨_, rfl, trivial⟩, ⟨ap1 .busy, rfl, under_ap1b _⟩, ⟨_, rfl, trivial, trivial⟩, ⟨_, rfl, trivial⟩, ⟨_, rfl, trivial⟩, ⟨_, rfl, trivial⟩, ⟨_, rfl, trivial⟩, ⟨_, rfl, trivial⟩, ⟨_, rfl, trivial, trivial, trivial⟩, ⟨ap2 .ready, rfl, under_ap2 _⟩, trivial⟩⟩
     rw [List.take_length] at hct
     show some (Blk.box [.lit (.int .i64 (if ((cntD r s (l.take l.length) : Nat) : Int) < 6 then ((cntD r s (l.take l.length) : Nat) : Int) else 6))] 3) = some (Blk.box [n' (cntD r s l)] 3)
     rw [List.take_length, if_pos (by omega)]
     rfl
   ·refine If.mk (fun h => absurd h (by decide)) (fun _ => ?_)
    refine ifN ?_
    refine ⟨leb rfl, ?_⟩
    refine .inl ⟨.inr rfl, _, rfl, rfl, ?_⟩
    refine ⟨_, _, rfl, (fun e => by cases e), rfl, rfl, apS, apT K S a b l (cntD r s l) ++ [(20, .defd), (21, ap1 .busy)], 30, rfl, ?_, ?_, ?_⟩
    ·exact ⟨⟨_, rfl, Weak.refl _ _⟩, ⟨_, rfl, Weak.refl _ _⟩, ⟨_, rfl, Weak.refl _ _⟩, ⟨_, rfl, Weak.refl _ _⟩, ⟨_, rfl, Weak.refl _ _⟩, ⟨_, rfl, Weak.refl _ _⟩, trivial⟩
    ·exact ⟨bk rfl rfl, bk rfl rfl, bk rfl rfl, bk rfl rfl, bk rfl rfl, bk rfl rfl, bk rfl rfl, bk rfl rfl, bk rfl rfl, bk rfl rfl, bk rfl rfl, bk rfl rfl, bk rfl rfl, bk rfl rfl, trivial⟩
    refine ⟨_, _, rfl, rfl, ?_⟩
    refine ifN ?_
    refine Side.mk (by unfold fitsK; kernel_rfl) ?_
    exact ⟨leb rfl, rfl, by omega, trivial, ⟨wp rfl (ltb rfl), wp rfl (ltb rfl), wp rfl trivial, trivial⟩, ⟨bk rfl rfl, bk rfl rfl, bk rfl rfl, bk rfl rfl, bk rfl rfl, bk rfl rfl, bk rfl rfl, bk rfl rfl, bk rfl rfl, bk rfl rfl, bk rfl rfl, bk rfl rfl, bk rfl rfl, bk rfl rfl, trivial⟩, ⟨⟨_, rfl, trivial, trivial⟩, ⟨_, rfl, trivial⟩, ⟨_, rfl, trivial⟩, ⟨_, rfl, trivial⟩, ⟨_, rfl, trivial⟩, ⟨_, rfl, trivial⟩, ⟨_, rfl, trivial, trivial, trivial⟩, ⟨_, rfl, trivial⟩, ⟨ap1 .ready, rfl, under_ap1 _⟩, trivial⟩⟩
  ·refine If.mk (fun h => absurd h (by decide)) (fun _ => ?_)
   refine ifN ?_
   refine ⟨leb rfl, ?_⟩
   refine .inl ⟨.inr rfl, _, rfl, rfl, ?_⟩
   refine ⟨_, _, rfl, (fun e => by cases e), rfl, rfl, [(13, .ptr 13 0)], [(13, .box [n' (cntD r s l)] 3)], 22, rfl, ?_, ?_, ?_⟩
   ·exact ⟨⟨_, rfl, Weak.refl _ _⟩, trivial⟩
   ·exact ⟨bk rfl rfl, trivial⟩
   exact ⟨.inl rfl, FinM.mk _ rfl rfl rfl⟩
end Go.Vm

namespace Go.Vm
open Go.Proofs
def bpT (K : Nat) (S : List (List Int)) (a b : Nat) (l : List Nat) (m : Int) : List (Nat × Blk) :=
 [(0, .box (regC K S) 63), (1, .box [eInts (cuesI l)] 30), (2, .box [n' 1] 3), (9, .box (regC K S ++ [n' a, nilS]) 245), (10, .box (regC K S ++ [n' b, nilS]) 245), (13, .box [n' m] 3), (14, .defd), (15, .defd), (16, .defd), (17, .defd), (18, .defd), (19, .box [n' 1000, n' 1000] 26)]
noncomputable def bpI (K : Nat) (S : List (List Int)) (a b : Nat) (l : List Nat) (m : Int) : List (Nat × Blk) := bpT K S a b l m ++ [(20, .defd), (21, ap1 .busy), (22, .box [n' 1000] 3), (23, .defd), (24, .defd), (25, .defd), (26, .defd), (27, .defd), (28, .box [n' 1000, n' 1000] 26)]
set_option maxHeartbeats 4000000 in
set_option maxRecDepth 100000 in
theorem c_apart1 {K : Nat} {S : List (List Int)} {a b : Nat} {r s : List Int} (ha : S[a]? = some r) (hb : S[b]? = some s) {l : List Nat} (hl : l.length ≤ 4) (hlK : ∀ c ∈ l, c < K) (hr : r.length = K ∧ ∀ x ∈ r, 0 ≤ x ∧ x ≤ 5) (hs : s.length = K ∧ ∀ x ∈ s, 0 ≤ x ∧ x ≤ 5) (H : List Blk) : ACall Tryz.prog 122 [eReg K S, n' a, n' b, eInts (cuesI l), n' 1] H (.ret (n' 0)) H := by
 have hR : ∀ c, c < K → _ := fun c hc => size_row (c := c) hr hc
 have hS : ∀ c, c < K → _ := fun c hc => size_row (c := c) hs hc
 refine fn_ruleM (m := false) (fn := Tryz.f122) (c := (Tryz.f122.body).getD .skip) mixed (by kernel_rfl) (by kernel_rfl) (of_decide_eq_true (by kernel_rfl)) ?_ ?_ ?_ H
 ·exact ⟨⟨under_eInts _ _, under_eLists _ _, trivial, trivial, trivial, trivial, trivial, trivial, trivial⟩, trivial, trivial, under_eInts _ _, trivial, trivial⟩
 ·exact trivial
 ·refine PickW.mk [9, 10] ?_
  refine CallG.pure _ (c_spans K S) ?_
  refine Ex.mk _ rfl ?_
  refine CallG.inlineP (m := false) (fn := Tryz.f168) (c := (Tryz.f168.body).getD .skip) mixed (by kernel_rfl) (by kernel_rfl) (of_decide_eq_true (by kernel_rfl)) ?_
  refine .inl ⟨.inl rfl, _, rfl, rfl, ?_⟩
  refine RangeG.fresh (n0 := 20) (apS ++ [(31, .fn (.func 189) [] [.ptr 19 0])]) (bpT K S a b l 6) rfl ?_ ?_ ?_
  ·exact ⟨⟨_, rfl, Weak.refl _ _⟩, ⟨_, rfl, Weak.refl _ _⟩, ⟨_, rfl, Weak.refl _ _⟩, ⟨_, rfl, Weak.refl _ _⟩, ⟨_, rfl, Weak.refl _ _⟩, ⟨_, rfl, Weak.refl _ _⟩, ⟨_, rfl, Weak.refl _ _⟩, trivial⟩
  ·exact ⟨bk rfl rfl, bk rfl rfl, bk rfl rfl, bk rfl rfl, bk rfl rfl, bk rfl rfl, bk rfl rfl, bk rfl rfl, bk rfl rfl, bk rfl rfl, bk rfl rfl, bk rfl rfl, trivial⟩
  refine RangeG.after ?_
  refine RangeG.outer (f := 189) (first := []) (captured := [.ptr 19 0]) rfl rfl rfl ?_
  refine CallG.inlineP (m := false) (fn := Tryz.f189) (c := (Tryz.f189.body).getD .skip) mixed (by kernel_rfl) (by kernel_rfl) (of_decide_eq_true (by kernel_rfl)) ?_
  refine loop_up mixed (m := false) (fun q => [(0, .yld 21), (1, .ptr 19 0), (3, n' (1000 + q : Nat))]) (fun q => bpT K S a b l (if q = 0 then 6 else 0) ++ [(20, .defd), (21, ap1 .ready)]) (fun _ => True) 1 13 (leb rfl) trivial ?_ ?_ ?_
  ·exact ⟨wp rfl (ltb rfl), wp rfl (ltb rfl), wp rfl trivial, trivial⟩
  ·exact ⟨bk rfl rfl, bk rfl rfl, bk rfl rfl, bk rfl rfl, bk rfl rfl, bk rfl rfl, bk rfl rfl, bk rfl rfl, bk rfl rfl, bk rfl rfl, bk rfl rfl, bk rfl rfl, bk rfl rfl, bk rfl rfl, trivial⟩
  intro q hq _
  have hq2 : q = 0 ∨ q = 1 := by omega
  rcases hq2 with rfl | rfl
  ·refine If.mk (fun _ => ?_) (fun h => absurd (by decide) h)
   refine ifY ?_
   refine RoundG.fresh (n0 := 22) (bpT K S a b l 6 ++ [(20, .defd), (21, ap1 .ready)]) rfl ?_ ?_
   ·exact ⟨bk rfl rfl, bk rfl rfl, bk rfl rfl, bk rfl rfl, bk rfl rfl, bk rfl rfl, bk rfl rfl, bk rfl rfl, bk rfl rfl, bk rfl rfl, bk rfl rfl, bk rfl rfl, bk rfl rfl, bk rfl rfl, trivial⟩
   refine RoundG.introF (m := false) mixed rfl rfl (by decide) ?_
   refine ⟨rfl, _, rfl, rfl, apS ++ [(14, .ptr 22 0)], bpT K S a b l 6 ++ [(20, .defd), (21, ap1 .busy), (22, .box [n' 1000] 3)], 23, rfl, ?_, ?_, ?_⟩
   ·exact ⟨⟨_, rfl, Weak.refl _ _⟩, ⟨_, rfl, Weak.refl _ _⟩, ⟨_, rfl, Weak.refl _ _⟩, ⟨_, rfl, Weak.refl _ _⟩, ⟨_, rfl, Weak.refl _ _⟩, ⟨_, rfl, Weak.refl _ _⟩, ⟨_, rfl, Weak.refl _ _⟩, trivial⟩
   ·exact ⟨bk rfl rfl, bk rfl rfl, bk rfl rfl, bk rfl rfl, bk rfl rfl, bk rfl rfl, bk rfl rfl, bk rfl rfl, bk rfl rfl, bk rfl rfl, bk rfl rfl, bk rfl rfl, bk rfl rfl, bk rfl rfl, bk rfl rfl, trivial⟩
   refine CallG.pure _ (c_spans K S) ?_
   refine Ex.mk _ rfl ?_
   refine CallG.inlineP (m := false) (fn := Tryz.f168) (c := (Tryz.f168.body).getD .skip) mixed (by kernel_rfl) (by kernel_rfl) (of_decide_eq_true (by kernel_rfl)) ?_
   refine .inl ⟨.inl rfl, _, rfl, rfl, ?_⟩
   refine RangeG.fresh (n0 := 29) (apS ++ [(14, .ptr 22 0), (37, .fn (.func 189) [] [.ptr 28 0])]) (bpI K S a b l 6) rfl ?_ ?_ ?_
   ·exact ⟨⟨_, rfl, Weak.refl _ _⟩, ⟨_, rfl, Weak.refl _ _⟩, ⟨_, rfl, Weak.refl _ _⟩, ⟨_, rfl, Weak.refl _ _⟩, ⟨_, rfl, Weak.refl _ _⟩, ⟨_, rfl, Weak.refl _ _⟩, ⟨_, rfl, Weak.refl _ _⟩, ⟨_, rfl, Weak.refl _ _⟩, trivial⟩
   ·exact ⟨bk rfl rfl, bk rfl rfl, bk rfl rfl, bk rfl rfl, bk rfl rfl, bk rfl rfl, bk rfl rfl, bk rfl rfl, bk rfl rfl, bk rfl rfl, bk rfl rfl, bk rfl rfl, bk rfl rfl, bk rfl rfl, bk rfl rfl, bk rfl rfl, bk rfl rfl, bk rfl rfl, bk rfl rfl, bk rfl rfl, bk rfl rfl, trivial⟩
   refine RangeG.after ?_
   refine RangeG.inner (ido := 21) (f := 189) (first := []) (captured := [.ptr 28 0]) rfl rfl rfl rfl ?_
   refine CallG.inlineP (m := false) (fn := Tryz.f189) (c := (Tryz.f189.body).getD .skip) mixed (by kernel_rfl) (by kernel_rfl) (of_decide_eq_true (by kernel_rfl)) ?_
   refine loop_up mixed (m := false) (fun q => [(0, .yld 29), (1, .ptr 28 0), (3, n' (1000 + q : Nat))]) (fun q => bpI K S a b l (if q = 0 then 6 else 0) ++ [(29, ap2 .ready)]) (fun _ => True) 1 13 (leb rfl) trivial ?_ ?_ ?_
   ·exact ⟨wp rfl (ltb rfl), wp rfl (ltb rfl), wp rfl trivial, trivial⟩
   ·exact ⟨bk rfl rfl, bk rfl rfl, bk rfl rfl, bk rfl rfl, bk rfl rfl, bk rfl rfl, bk rfl rfl, bk rfl rfl, bk rfl rfl, bk rfl rfl, bk rfl rfl, bk rfl rfl, bk rfl rfl, bk rfl rfl, bk rfl rfl, bk rfl rfl, bk rfl rfl, bk rfl rfl, bk rfl rfl, bk rfl rfl, bk rfl rfl, bk rfl rfl, trivial⟩
   intro q hq _
   have hq2 : q = 0 ∨ q = 1 := by omega
   rcases hq2 with rfl | rfl
   ·refine If.mk (fun _ => ?_) (fun h => absurd (by decide) h)
    refine ifY ?_
    refine RoundG.fresh (n0 := 30) (bpI K S a b l 6 ++ [(29, ap2 .ready)]) rfl ?_ ?_
    ·exact ⟨bk rfl rfl, bk rfl rfl, bk rfl rfl, bk rfl rfl, bk rfl rfl, bk rfl rfl, bk rfl rfl, bk rfl rfl, bk rfl rfl, bk rfl rfl, bk rfl rfl, bk rfl rfl, bk rfl rfl, bk rfl rfl, bk rfl rfl, bk rfl rfl, bk rfl rfl, bk rfl rfl, bk rfl rfl, bk rfl rfl, bk rfl rfl, bk rfl rfl, trivial⟩
    refine RoundG.introF (m := false) mixed rfl rfl (by decide) ?_
    refine ⟨rfl, _, rfl, rfl, apS ++ [(14, .ptr 22 0), (15, n' 1000)], bpI K S a b l 6 ++ [(29, ap2 .busy)], 30, rfl, ?_, ?_, ?_⟩
    ·exact ⟨⟨_, rfl, Weak.refl _ _⟩, ⟨_, rfl, Weak.refl _ _⟩, ⟨_, rfl, Weak.refl _ _⟩, ⟨_, rfl, Weak.refl _ _⟩, ⟨_, rfl, Weak.refl _ _⟩, ⟨_, rfl, Weak.refl _ _⟩, ⟨_, rfl, Weak.refl _ _⟩, ⟨_, rfl, Weak.refl _ _⟩, trivial⟩
    ·exact ⟨bk rfl rfl, bk rfl rfl, bk rfl rfl, bk rfl rfl, bk rfl rfl, bk rfl rfl, bk rfl rfl, bk rfl rfl, bk rfl rfl, bk rfl rfl, bk rfl rfl, bk rfl rfl, bk rfl rfl, bk rfl rfl, bk rfl rfl, bk rfl rfl, bk rfl rfl, bk rfl rfl, bk rfl rfl, bk rfl rfl, bk rfl rfl, bk rfl rfl, trivial⟩
    refine loop_up mixed (m := false) (fun q => apS ++ [(14, .ptr 22 0), (15, n' 1000), (16, n' 0), (39, eInts (cuesI l)), (40, n' l.length), (41, n' q)]) (fun _ => bpI K S a b l 6 ++ [(29, ap2 .busy)]) (fun _ => True) l.length 29 (leb rfl) trivial ?_ ?_ ?_
    ·exact ⟨wp rfl (ltb rfl), wp rfl (ltb rfl), wp rfl (ltb rfl), wp rfl (ltb rfl), wp rfl (ltb rfl), wp rfl (ltb rfl), wp rfl (ltb rfl), wp rfl trivial, wp rfl trivial, ⟨_, rfl, Weak.refl _ _, under_eInts _ _⟩, ⟨_, rfl, Weak.of_eq (congrArg n' (by rw [cuesI_length])), trivial⟩, wp rfl trivial, trivial⟩
    ·exact ⟨bk rfl rfl, bk rfl rfl, bk rfl rfl, bk rfl rfl, bk rfl rfl, bk rfl rfl, bk rfl rfl, bk rfl rfl, bk rfl rfl, bk rfl rfl, bk rfl rfl, bk rfl rfl, bk rfl rfl, bk rfl rfl, bk rfl rfl, bk rfl rfl, bk rfl rfl, bk rfl rfl, bk rfl rfl, bk rfl rfl, bk rfl rfl, bk rfl rfl, trivial⟩
    intro q hq _
    refine If.mk (fun h1 => ?_) (fun h1 => ?_)
    ·refine ifY ?_
     have hql : q < l.length := by omega
     have hcK := hlK l[q] (List.getElem_mem hql)
     have hc : (cuesI l)[q]? = some ((l[q] : Nat) : Int) := by unfold cuesI; rw [List.getElem?_map, List.getElem?_eq_getElem hql]; rfl
     have hr1 := (hR _ hcK).1
     have hr2 := (hR _ hcK).2
     have hs1 := (hS _ hcK).1
     have hs2 := (hS _ hcK).2
     refine Ex.mk _ (jx_ints (r := q) rfl hc) ?_
     refine Ex.mk _ rfl ?_
     refine CallG.pure _ (c_unchanged ha hr1 hr2) ?_
     refine CallG.pure _ (c_unchanged hb hs1 hs2) ?_
     refine Ex.mk _ (jx_kinds (r := l[q]) rfl hcK) ?_
     refine Ex.mk _ rfl ?_
     refine CallG.pure _ (c_kind) ?_
     refine If.mk (fun h => absurd h (by decide)) (fun _ => ?_)
     refine ifN ?_
     refine Side.mk (fits64 (by omega)) ?_
     exact ⟨leb rfl, rfl, by omega, trivial, ⟨wp rfl (ltb rfl), wp rfl (ltb rfl), wp rfl (ltb rfl), wp rfl (ltb rfl), wp rfl (ltb rfl), wp rfl (ltb rfl), wp rfl (ltb rfl), wp rfl trivial, wp rfl trivial, ⟨_, rfl, Weak.refl _ _, under_eInts _ _⟩, wp rfl trivial, wp rfl trivial, trivial⟩, ⟨bk rfl rfl, bk rfl rfl, bk rfl rfl, bk rfl rfl, bk rfl rfl, bk rfl rfl, bk rfl rfl, bk rfl rfl, bk rfl rfl, bk rfl rfl, bk rfl rfl, bk rfl rfl, bk rfl rfl, bk rfl rfl, bk rfl rfl, bk rfl rfl, bk rfl rfl, bk rfl rfl, bk rfl rfl, bk rfl rfl, bk rfl rfl, bk rfl rfl, trivial⟩, trivial⟩
    ·refine ifN ?_
     have hql : q = l.length := by omega
     subst hql
     refine ⟨leb rfl, ?_⟩
     refine Ex.mk _ rfl ?_
     refine ⟨_, _, rfl, rfl, ?_⟩
     refine ifN ?_
     refine Side.mk (by unfold fitsK; kernel_rfl) ?_
     refine ⟨leb rfl, rfl, by omega, trivial, ⟨wp rfl (ltb rfl), wp rfl (ltb rfl), wp rfl trivial, trivial⟩, ⟨bk rfl rfl, bk rfl rfl, bk rfl rfl, bk rfl rfl, bk rfl rfl, ⟨?_, ltb rfl⟩, bk rfl rfl, bk rfl rfl, bk rfl rfl, bk rfl rfl, bk rfl rfl, bk rfl rfl, bk rfl rfl, bk rfl rfl, bk rfl rfl, bk rfl rfl, bk rfl rfl, bk rfl rfl, bk rfl rfl, bk rfl rfl, bk rfl rfl, bk rfl rfl, trivial⟩, ⟨⟨_, rfl, trivial, trivial⟩, ⟨_, rfl, trivial⟩, ⟨_, rfl, trivial⟩, ⟨_, rfl, trivial⟩, ⟨_, rfl, trivial⟩, ⟨_, rfl, trivial⟩, ⟨_, rfl, trivial, trivial, trivial⟩, ⟨_, rfl, trivial⟩, ⟨ap1 .busy, rfl, under_ap1b _⟩, ⟨_, rfl, trivial, trivial⟩, ⟨_, rfl, trivial⟩, ⟨_, rfl, trivial⟩, ⟨_, rfl, trivial⟩, ⟨_, rfl, trivial⟩, ⟨_, rfl, trivial⟩, ⟨_, rfl, trivial, trivial, trivial⟩, ⟨ap2 .ready, rfl, under_ap2 _⟩, trivial⟩⟩
     rfl
   ·refine If.mk (fun h => absurd h (by decide)) (fun _ => ?_)
    refine ifN ?_
    refine ⟨leb rfl, ?_⟩
    refine .inl ⟨.inr rfl, _, rfl, rfl, ?_⟩
    refine ⟨_, _, rfl, (fun e => by cases e), rfl, rfl, apS, bpT K S a b l 0 ++ [(20, .defd), (21, ap1 .busy)], 30, rfl, ?_, ?_, ?_⟩
    ·exact ⟨⟨_, rfl, Weak.refl _ _⟩, ⟨_, rfl, Weak.refl _ _⟩, ⟨_, rfl, Weak.refl _ _⟩, ⟨_, rfl, Weak.refl _ _⟩, ⟨_, rfl, Weak.refl _ _⟩, ⟨_, rfl, Weak.refl _ _⟩, trivial⟩
    ·exact ⟨bk rfl rfl, bk rfl rfl, bk rfl rfl, bk rfl rfl, bk rfl rfl, bk rfl rfl, bk rfl rfl, bk rfl rfl, bk rfl rfl, bk rfl rfl, bk rfl rfl, bk rfl rfl, bk rfl rfl, bk rfl rfl, trivial⟩
    refine ⟨_, _, rfl, rfl, ?_⟩
    refine ifN ?_
    refine Side.mk (by unfold fitsK; kernel_rfl) ?_
    exact ⟨leb rfl, rfl, by omega, trivial, ⟨wp rfl (ltb rfl), wp rfl (ltb rfl), wp rfl trivial, trivial⟩, ⟨bk rfl rfl, bk rfl rfl, bk rfl rfl, bk rfl rfl, bk rfl rfl, bk rfl rfl, bk rfl rfl, bk rfl rfl, bk rfl rfl, bk rfl rfl, bk rfl rfl, bk rfl rfl, bk rfl rfl, bk rfl rfl, trivial⟩, ⟨⟨_, rfl, trivial, trivial⟩, ⟨_, rfl, trivial⟩, ⟨_, rfl, trivial⟩, ⟨_, rfl, trivial⟩, ⟨_, rfl, trivial⟩, ⟨_, rfl, trivial⟩, ⟨_, rfl, trivial, trivial, trivial⟩, ⟨_, rfl, trivial⟩, ⟨ap1 .ready, rfl, under_ap1 _⟩, trivial⟩⟩
  ·refine If.mk (fun h => absurd h (by decide)) (fun _ => ?_)
   refine ifN ?_
   refine ⟨leb rfl, ?_⟩
   refine .inl ⟨.inr rfl, _, rfl, rfl, ?_⟩
   refine ⟨_, _, rfl, (fun e => by cases e), rfl, rfl, [(13, .ptr 13 0)], [(13, .box [n' 0] 3)], 22, rfl, ?_, ?_, ?_⟩
   ·exact ⟨⟨_, rfl, Weak.refl _ _⟩, trivial⟩
   ·exact ⟨bk rfl rfl, trivial⟩
   exact ⟨.inl rfl, FinM.mk _ rfl rfl rfl⟩
end Go.Vm

namespace Go.Vm
open Go.Proofs
theorem eqOn_cnt {S : List (List Int)} {a b : Nat} {l : List Nat} : eqOn S l a b = true ↔ cntD (S.getD a []) (S.getD b []) l = 0 := by
 rw [eqOn_iff]
 unfold cntD
 rw [List.length_eq_zero_iff, List.filter_eq_nil_iff]
 simp
def twinsV (S : List (List Int)) (l : List Nat) : AV := match preF (eqOn S l) S.length S.length with
 | some p => .tup [n' p.1, n' p.2, nb true]
 | none => .tup [n' (S.length - 1 : Nat), n' S.length, nb false]
theorem hide_get {S : List (List Int)} {n : Nat} (h : n < S.length) : S[n]? = some (S.getD n []) := by rw [List.getD, List.getElem?_eq_getElem h]; rfl
theorem pairF_found {ok : Nat → Nat → Bool} {i n : Nat} {p : Nat × Nat} : ∀ {k : Nat}, k < n → pairF ok i (k + 1) = some p → pairF ok i n = some p := by
 have key : ∀ d k, pairF ok i k = some p → pairF ok i (k + d) = some p := fun d => by
  induction d with
  | zero => intro k h; exact h
  | succ d ih =>
   intro k h
   show pairF ok i (k + d + 1) = _
   unfold pairF
   rw [ih k h]
 intro k hk h
 have := key (n - (k + 1)) (k + 1) h
 rwa [show k + 1 + (n - (k + 1)) = n by omega] at this
theorem preF_found {ok : Nat → Nat → Bool} {n q : Nat} {p : Nat × Nat} (hq : q < n) (h0 : preF ok n q = none) (h : pairF ok q n = some p) : preF ok n n = some p := by
 have e : preF ok n (q + 1) = some p := by rw [preF_succ, h0]; exact h
 have key : ∀ d, preF ok n (q + 1 + d) = some p := fun d => by
  induction d with
  | zero => exact e
  | succ d ih =>
   show preF ok n (q + 1 + d + 1) = _
   rw [preF_succ, ih]
   rfl
 have := key (n - (q + 1))
 rwa [show q + 1 + (n - (q + 1)) = n by omega] at this
theorem pairF_step {ok : Nat → Nat → Bool} {i k : Nat} (h : pairF ok i k = none) (hk : ¬ ok i k = true) : pairF ok i (k + 1) = none := by
 unfold pairF
 rw [h]
 exact if_neg fun x => hk x.2
set_option maxHeartbeats 4000000 in
set_option maxRecDepth 100000 in
theorem c_twins {K : Nat} {S : List (List Int)} (hS : TmOk S K) {l : List Nat} (hl : l.length ≤ 4) (hlK : ∀ c ∈ l, c < K) (H : List Blk) : ACall Tryz.prog 64 [eReg K S, eInts (cuesI l)] H (.ret (twinsV S l)) H := by
 refine fn_rule (m := false) (fn := Tryz.f64) (c := (Tryz.f64.body).getD .skip) mixed (by kernel_rfl) (by kernel_rfl) (of_decide_eq_true (by kernel_rfl)) ?_ ?_ ?_ H
 ·exact ⟨⟨under_eInts _ _, under_eLists _ _, trivial, trivial, trivial, trivial, trivial, trivial, trivial⟩, under_eInts _ _, trivial⟩
 ·unfold twinsV; split <;> exact ⟨trivial, trivial, trivial, trivial⟩
 ·refine LoopG.at (n0 := 1) rfl ?_
  refine loop_up mixed (m := false) (fun q => [(1, eInts (cuesI l)), (2, .ptr 0 0), (4, n' (q - 1 : Nat)), (5, n' ((if q = 0 then 0 else S.length : Nat))), (6, nb false), (9, n' S.length), (10, n' q)]) (fun _ => [(0, .box (regC K S) 63)]) (fun q => preF (eqOn S l) S.length q = none) S.length 1 (leb rfl) rfl ?_ ?_ ?_
  ·exact ⟨⟨_, rfl, Weak.refl _ _, under_eInts _ _⟩, wp rfl (ltb rfl), wp rfl trivial, wp rfl trivial, wp rfl trivial, ⟨_, rfl, Weak.of_eq (congrArg n' (by rw [List.length_map])), trivial⟩, wp rfl trivial, trivial⟩
  ·exact ⟨bk rfl rfl, trivial⟩
  intro q hq hJ
  have hn := hS.n
  refine If.mk (fun h1 => ?_) (fun h1 => ?_)
  ·refine ifY ?_
   refine Side.mk (fits64 (by omega)) ?_
   refine LoopG.at (n0 := 1) rfl ?_
   refine loop_up mixed (m := false) (fun r => [(1, eInts (cuesI l)), (2, .ptr 0 0), (4, n' q), (5, n' (q + 1 + r : Nat)), (6, nb false), (9, n' S.length), (10, n' q)]) (fun _ => [(0, .box (regC K S) 63)]) (fun r => pairF (eqOn S l) q (q + 1 + r) = none) (S.length - (q + 1)) 1 (leb rfl) (pairF_low (by omega)) ?_ ?_ ?_
   ·exact ⟨⟨_, rfl, Weak.refl _ _, under_eInts _ _⟩, wp rfl (ltb rfl), wp rfl trivial, wp rfl trivial, wp rfl trivial, wp rfl trivial, wp rfl trivial, trivial⟩
   ·exact ⟨bk rfl rfl, trivial⟩
   intro r hr hJ2
   have hlm : (S.map hideL).length = S.length := List.length_map _
   have hql : q < S.length := by omega
   refine If.mk (fun h2 => ?_) (fun h2 => ?_)
   ·refine ifY ?_
    have hrl : q + 1 + r < S.length := by omega
    refine CallG.pure _ (c_apart0 (hide_get hql) (hide_get hrl) hl hlK (hS.at hql) (hS.at hrl)) ?_
    refine CallG.pure _ (c_apart1 (hide_get hql) (hide_get hrl) hl hlK (hS.at hql) (hS.at hrl)) ?_
    have hc := Nat.le_trans (cntD_le (S.getD q []) (S.getD (q + 1 + r) []) l) hl
    refine Side.mk (fits64 (by omega)) ?_
    refine Side.mk (by unfold fitsK; kernel_rfl) ?_
    refine If.mk (fun h3 => ?_) (fun h3 => ?_)
    ·have hok : eqOn S l q (q + 1 + r) = true := eqOn_cnt.2 (by omega)
     refine ifY ?_
     refine ⟨leb rfl, leb rfl, .inl rfl, FinG.mk _ rfl rfl ?_⟩
     have e2 : pairF (eqOn S l) q (q + 1 + r + 1) = some (q, q + 1 + r) := by
      unfold pairF
      rw [hJ2]
      exact if_pos ⟨by omega, hok⟩
     have e3 : preF (eqOn S l) S.length S.length = some (q, q + 1 + r) := preF_found hql hJ (pairF_found hrl e2)
     show AV.tup [n' q, n' (q + 1 + r : Nat), nb true] = twinsV S l
     unfold twinsV
     rw [e3]
    ·have hok : ¬ eqOn S l q (q + 1 + r) = true := fun e => h3 (by have := eqOn_cnt.1 e; omega)
     refine ifN ?_
     refine Side.mk (fits64 (by omega)) ?_
     refine ⟨leb rfl, rfl, by omega, pairF_step hJ2 hok, ⟨⟨_, rfl, Weak.refl _ _, under_eInts _ _⟩, wp rfl (ltb rfl), wp rfl trivial, wp rfl trivial, wp rfl trivial, wp rfl trivial, wp rfl trivial, trivial⟩, ⟨bk rfl rfl, trivial⟩, trivial⟩
   ·refine ifN ?_
    refine ⟨leb rfl, ?_⟩
    refine Side.mk (fits64 (by omega)) ?_
    have hr2 : q + 1 + r = S.length := by omega
    rw [hr2] at hJ2
    refine ⟨leb rfl, rfl, by omega, ?_, ⟨⟨_, rfl, Weak.refl _ _, under_eInts _ _⟩, wp rfl (ltb rfl), wp rfl trivial, ⟨_, rfl, Weak.of_eq (congrArg n' (by rw [if_neg (by omega), hr2])), trivial⟩, wp rfl trivial, wp rfl trivial, wp rfl trivial, trivial⟩, ⟨bk rfl rfl, trivial⟩, trivial⟩
    show preF (eqOn S l) S.length (q + 1) = none
    rw [preF_succ, hJ]
    exact hJ2
  ·refine ifN ?_
   have hqn : q = S.length := by omega
   subst hqn
   refine ⟨leb rfl, .inl rfl, FinG.mk _ rfl rfl ?_⟩
   show AV.tup [n' (S.length - 1 : Nat), n' ((if S.length = 0 then 0 else S.length : Nat)), nb false] = twinsV S l
   unfold twinsV
   rw [hJ, if_neg (by omega)]
end Go.Vm

namespace Go.Vm
open Go.Proofs
set_option maxRecDepth 100000 in
theorem c_isSpan (H : List Blk) : ACall Tryz.prog 115 [.agg [n' 1000, n' 1000]] H (.ret (nb true)) H := by
 refine fn_rule (m := false) (fn := Tryz.f115) (c := (Tryz.f115.body).getD .skip) mixed (by kernel_rfl) (by kernel_rfl) (of_decide_eq_true (by kernel_rfl)) ?_ ?_ ?_ H
 ·exact ⟨⟨trivial, trivial, trivial⟩, trivial⟩
 ·exact trivial
 ·refine CallG.bool (c_hin 1000 700 1300) (fun _ => ?_) (fun h => absurd (by decide) h)
  refine CallG.bool (c_hin 1000 1000 1300) (fun _ => ?_) (fun h => absurd (by decide) h)
  refine Side.mk (by unfold fitsK; kernel_rfl) ?_
  refine If.mk (fun _ => ?_) (fun h => absurd (by decide) h)
  exact ⟨.inl rfl, FinG.mk _ rfl rfl rfl⟩
set_option maxRecDepth 100000 in
theorem c_badSize (n : Int) (H : List Blk) : ACall Tryz.prog 118 [n' n] H (.ret (.lit (.bool (decide (¬ (1 ≤ n ∧ n ≤ 500)))))) H := by
 refine fn_rule (m := false) (fn := Tryz.f118) (c := (Tryz.f118.body).getD .skip) mixed (by kernel_rfl) (by kernel_rfl) (of_decide_eq_true (by kernel_rfl)) ?_ ?_ ?_ H
 ·exact ⟨trivial, trivial⟩
 ·exact trivial
 ·refine CallG.bool (c_hin n 1 500) (fun h => ?_) (fun h => ?_)
  ·exact ⟨.inl rfl, FinG.no rfl rfl (fun e => e h)⟩
  ·exact ⟨.inl rfl, FinG.yes rfl rfl (h)⟩
set_option maxRecDepth 100000 in
theorem c_badKind (k : Int) (H : List Blk) : ACall Tryz.prog 120 [n' k] H (.ret (.lit (.bool (decide (k ≠ 1 ∧ k ≠ 2))))) H := by
 refine fn_rule (m := false) (fn := Tryz.f120) (c := (Tryz.f120.body).getD .skip) mixed (by kernel_rfl) (by kernel_rfl) (of_decide_eq_true (by kernel_rfl)) ?_ ?_ ?_ H
 ·exact ⟨trivial, trivial⟩
 ·exact trivial
 ·refine If.mk (fun h => ?_) (fun h => ?_)
  ·exact ⟨.inl rfl, FinG.no rfl rfl (fun e => e.1 h)⟩
  ·refine If.mk (fun h2 => ?_) (fun h2 => ?_)
   ·exact ⟨.inl rfl, FinG.no rfl rfl (fun e => e.2 h2)⟩
   ·exact ⟨.inl rfl, FinG.yes rfl rfl (⟨h, h2⟩)⟩
end Go.Vm

namespace Go.Vm
open Go.Proofs
theorem ix_listsH {l : List (List Int)} {tl : Tail} {i : Int} {r : Nat} (hi : i = r) (h : r < l.length) : indexOp Tryz.prog 38 (.sl l.length (l.map eInts) tl) (.lit (.int .i64 i)) = some (.eptr [eInts l[r]]) :=
 ix_one (P := Tryz.prog) (e := 30) (f := eInts) (by kernel_rfl) (by kernel_rfl) hi h
set_option maxRecDepth 100000 in
theorem c_indexK {L0 : List (Nat × Blk)} {n0 : Nat} (hn : n0 ≤ noLo) (hL0 : Blks (get (ofL L0)) n0 L0) (fc : FuncId) (caps : List AV) (hcaps : AV.unders n0 caps) (p : Int → Prop) [DecidablePred p] (l : List (Int)) (hl : l.length < 4611686018427387904) (hcal : callable Tryz.prog fc = true)
  (hf : ∀ x ∈ l, ∀ H, HT (ofL L0) n0 H → ACall Tryz.prog fc (n' x :: caps) H (.ret (.lit (.bool (decide (p x))))) H) (H : List Blk) (hH : HT (ofL L0) n0 H) : ACall Tryz.prog 166 [eInts l, clo fc caps] H (.ret (n' (idxOf p l))) H := by
 refine fn_at (m := false) (fn := Tryz.f166) (c := (Tryz.f166.body).getD .skip) mixed (by kernel_rfl) (by kernel_rfl) (of_decide_eq_true (by kernel_rfl)) rfl ?_ H hH
 refine loop_up mixed (m := false) (fun r => [(0, eInts l), (1, clo fc caps), (7, n' l.length), (8, n' r)]) (fun _ => L0) (fun r => ∀ x ∈ l.take r, ¬ p x) l.length noLo (leb rfl) (fun _ h => by simp at h) ?_ ?_ ?_
 ·exact ⟨⟨_, rfl, Weak.refl _ _, under_eInts _ _⟩, ⟨_, rfl, Weak.refl _ _, ⟨trivial, by rw [AV.unders_mem] at hcaps ⊢; exact fun a ha => AV.under_mono hn a (hcaps a ha)⟩⟩, wp rfl trivial, wp rfl trivial, trivial⟩
 ·exact hL0.mono hn
 ·intro r hr hI
  refine If.mk (fun h1 => ?_) (fun h1 => ?_)
  ·refine ifY ?_
   refine Ex.mk _ (ix_kinds (r := r) rfl (by omega)) ?_
   refine Ex.mk _ rfl ?_
   have hr' : r < l.length := by omega
   refine bif_mk hcal ?_
   refine CallG.atB (p := p l[r]) (hf _ (List.getElem_mem hr')) (fun h => ?_) (fun h => ?_)
   ·refine ifY ?_
    refine ⟨leb rfl, .inl rfl, hn, FinF.mk _ rfl rfl ?_⟩
    show n' (r : Nat) = _
    rw [idx_hit hr' hI h]
   ·refine ifN ?_
    refine Side.mk (fits64 (by omega)) ?_
    refine ⟨leb rfl, rfl, hr', all_snoc (p := fun x => ¬ p x) hr' hI h, ⟨⟨_, rfl, Weak.refl _ _, under_eInts _ _⟩, ⟨_, rfl, Weak.refl _ _, ⟨trivial, hcaps⟩⟩, wp rfl trivial, wp rfl trivial, trivial⟩, hL0, ?_⟩
    rw [show n0 - noLo = 0 by omega]
    exact trivial
  ·refine ifN ?_
   refine ⟨leb rfl, .inl rfl, hn, FinF.mk _ rfl rfl ?_⟩
   show n' (-1) = _
   rw [idx_miss (all_end (p := fun x => ¬ p x) (by omega) hI)]
set_option maxRecDepth 100000 in
theorem c_containsK {L0 : List (Nat × Blk)} {n0 : Nat} (hn : n0 ≤ noLo) (hL0 : Blks (get (ofL L0)) n0 L0) (fc : FuncId) (caps : List AV) (hcaps : AV.unders n0 caps) (p : Int → Prop) [DecidablePred p] (l : List (Int)) (hl : l.length < 4611686018427387904) (hcal : callable Tryz.prog fc = true)
  (hf : ∀ x ∈ l, ∀ H, HT (ofL L0) n0 H → ACall Tryz.prog fc (n' x :: caps) H (.ret (.lit (.bool (decide (p x))))) H) (H : List Blk) (hH : HT (ofL L0) n0 H) : ACall Tryz.prog 119 [eInts l, clo fc caps] H (.ret (.lit (.bool (decide (∃ x ∈ l, p x))))) H := by
 refine fn_at (m := false) (fn := Tryz.f119) (c := (Tryz.f119.body).getD .skip) mixed (by kernel_rfl) (by kernel_rfl) (of_decide_eq_true (by kernel_rfl)) rfl ?_ H hH
 refine CallG.at _ (c_indexK hn hL0 fc caps hcaps p l hl hcal hf) ?_
 refine If.mk (fun h1 => ?_) (fun h1 => ?_)
 ·refine ⟨.inl rfl, hn, FinF.bool rfl rfl ⟨fun _ => rfl, fun _ => idx_nonneg.1 h1⟩⟩
 ·refine ⟨.inl rfl, hn, FinF.bool rfl rfl ⟨fun x => absurd (idx_nonneg.2 x) h1, fun x => by cases x⟩⟩
set_option maxRecDepth 100000 in
theorem c_indexL {L0 : List (Nat × Blk)} {n0 : Nat} (hn : n0 ≤ noLo) (hL0 : Blks (get (ofL L0)) n0 L0) (fc : FuncId) (caps : List AV) (hcaps : AV.unders n0 caps) (p : List Int → Prop) [DecidablePred p] (l : List (List Int)) (hl : l.length < 4611686018427387904) (hcal : callable Tryz.prog fc = true)
  (hf : ∀ x ∈ l, ∀ H, HT (ofL L0) n0 H → ACall Tryz.prog fc (eInts x :: caps) H (.ret (.lit (.bool (decide (p x))))) H) (H : List Blk) (hH : HT (ofL L0) n0 H) : ACall Tryz.prog 167 [eLists l, clo fc caps] H (.ret (n' (idxOf p l))) H := by
 refine fn_at (m := false) (fn := Tryz.f167) (c := (Tryz.f167.body).getD .skip) mixed (by kernel_rfl) (by kernel_rfl) (of_decide_eq_true (by kernel_rfl)) rfl ?_ H hH
 refine loop_up mixed (m := false) (fun r => [(0, eLists l), (1, clo fc caps), (7, n' l.length), (8, n' r)]) (fun _ => L0) (fun r => ∀ x ∈ l.take r, ¬ p x) l.length noLo (leb rfl) (fun _ h => by simp at h) ?_ ?_ ?_
 ·exact ⟨⟨_, rfl, Weak.refl _ _, under_eLists _ _⟩, ⟨_, rfl, Weak.refl _ _, ⟨trivial, by rw [AV.unders_mem] at hcaps ⊢; exact fun a ha => AV.under_mono hn a (hcaps a ha)⟩⟩, wp rfl trivial, wp rfl trivial, trivial⟩
 ·exact hL0.mono hn
 ·intro r hr hI
  refine If.mk (fun h1 => ?_) (fun h1 => ?_)
  ·refine ifY ?_
   refine Ex.mk _ (ix_listsH (r := r) rfl (by omega)) ?_
   refine Ex.mk _ rfl ?_
   have hr' : r < l.length := by omega
   refine bif_mk hcal ?_
   refine CallG.atB (p := p l[r]) (hf _ (List.getElem_mem hr')) (fun h => ?_) (fun h => ?_)
   ·refine ifY ?_
    refine ⟨leb rfl, .inl rfl, hn, FinF.mk _ rfl rfl ?_⟩
    show n' (r : Nat) = _
    rw [idx_hit hr' hI h]
   ·refine ifN ?_
    refine Side.mk (fits64 (by omega)) ?_
    refine ⟨leb rfl, rfl, hr', all_snoc (p := fun x => ¬ p x) hr' hI h, ⟨⟨_, rfl, Weak.refl _ _, under_eLists _ _⟩, ⟨_, rfl, Weak.refl _ _, ⟨trivial, hcaps⟩⟩, wp rfl trivial, wp rfl trivial, trivial⟩, hL0, ?_⟩
    rw [show n0 - noLo = 0 by omega]
    exact trivial
  ·refine ifN ?_
   refine ⟨leb rfl, .inl rfl, hn, FinF.mk _ rfl rfl ?_⟩
   show n' (-1) = _
   rw [idx_miss (all_end (p := fun x => ¬ p x) (by omega) hI)]
set_option maxRecDepth 100000 in
theorem c_containsL {L0 : List (Nat × Blk)} {n0 : Nat} (hn : n0 ≤ noLo) (hL0 : Blks (get (ofL L0)) n0 L0) (fc : FuncId) (caps : List AV) (hcaps : AV.unders n0 caps) (p : List Int → Prop) [DecidablePred p] (l : List (List Int)) (hl : l.length < 4611686018427387904) (hcal : callable Tryz.prog fc = true)
  (hf : ∀ x ∈ l, ∀ H, HT (ofL L0) n0 H → ACall Tryz.prog fc (eInts x :: caps) H (.ret (.lit (.bool (decide (p x))))) H) (H : List Blk) (hH : HT (ofL L0) n0 H) : ACall Tryz.prog 121 [eLists l, clo fc caps] H (.ret (.lit (.bool (decide (∃ x ∈ l, p x))))) H := by
 refine fn_at (m := false) (fn := Tryz.f121) (c := (Tryz.f121.body).getD .skip) mixed (by kernel_rfl) (by kernel_rfl) (of_decide_eq_true (by kernel_rfl)) rfl ?_ H hH
 refine CallG.at _ (c_indexL hn hL0 fc caps hcaps p l hl hcal hf) ?_
 refine If.mk (fun h1 => ?_) (fun h1 => ?_)
 ·refine ⟨.inl rfl, hn, FinF.bool rfl rfl ⟨fun _ => rfl, fun _ => idx_nonneg.1 h1⟩⟩
 ·refine ⟨.inl rfl, hn, FinF.bool rfl rfl ⟨fun x => absurd (idx_nonneg.2 x) h1, fun x => by cases x⟩⟩
end Go.Vm

namespace Go.Vm
open Go.Proofs
def rBox (K : Nat) (S : List (List Int)) : Blk := .box (regC K S) 63
theorem rBox_under (K : Nat) (S : List (List Int)) (n : Nat) : (rBox K S).under n := ⟨under_eInts _ _, under_eLists _ _, trivial, trivial, trivial, trivial, trivial, trivial, trivial⟩
theorem wk_clo {f : FuncId} (H : List Blk) : WeakH H (.lit (.func (.func f) #[] #[])) (clo f []) := fun O ι w c h => by
 unfold clo
 simp only [VRel] at h ⊢
 subst h
 exact ⟨#[], #[], rfl, by simp [VRels], by simp [VRels]⟩
set_option maxRecDepth 100000 in
theorem c_badHide {K : Nat} {S : List (List Int)} (l : List Int) (hl : l.length < 4611686018427387904) (H2 : List Blk) : ACall Tryz.prog 116 [eInts l, .ptr 0 0] ([rBox K S] ++ H2) (.ret (.lit (.bool (decide ((l.length : Int) ≠ K ∨ ∃ n ∈ l, ¬ (1 ≤ n ∧ n ≤ 500)))))) ([rBox K S] ++ H2) := by
 refine fn_pre (m := false) (fn := Tryz.f116) (c := (Tryz.f116.body).getD .skip) mixed (by kernel_rfl) (by kernel_rfl) (of_decide_eq_true (by kernel_rfl)) (HT.one _) ?_ ?_ rfl ?_ H2
 ·exact ⟨under_eInts _ _, ltb rfl, trivial⟩
 ·intro B hB
  simp at hB
  subst hB
  exact rBox_under _ _ _
 ·have hrl : (List.replicate K (1 : Int)).length = K := List.length_replicate
  refine If.mk (fun h => ?_) (fun h => ?_)
  ·refine CallG.fresh (n0 := 1) [eInts l, clo 118 []] [(0, rBox K S)] rfl (.cons (fun H => WeakH.refl _ H) (.cons wk_clo .nil)) ⟨bk rfl rfl, trivial⟩ ?_
   refine CallG.atB (p := ∃ n ∈ l, ¬ (1 ≤ n ∧ n ≤ 500)) (fun H hH => c_containsI (n0 := 1) (L0 := [(0, rBox K S)]) (leb rfl) ⟨bk rfl rfl, trivial⟩ 118 [] trivial (fun n => ¬ (1 ≤ n ∧ n ≤ 500)) l hl rfl (fun n _ H _ => c_badSize n H) H (hH.sub ⟨bk rfl rfl, trivial⟩)) (fun h4 => ?_) (fun h4 => ?_)
   ·exact ⟨.inl rfl, leb rfl, FinF.bool rfl rfl ⟨fun _ => rfl, fun _ => .inr h4⟩⟩
   ·exact ⟨.inl rfl, leb rfl, FinF.bool rfl rfl ⟨fun x => absurd x (fun x => x.elim (fun e => e (by omega)) h4), fun x => by cases x⟩⟩
  ·exact ⟨.inl rfl, leb rfl, FinF.bool rfl rfl ⟨fun _ => rfl, fun _ => .inl (fun e => h (by omega))⟩⟩
theorem no_kind {K : Nat} : ¬ ∃ k ∈ List.replicate K (1 : Int), (k ≠ 1 ∧ k ≠ 2) := by
 rintro ⟨k, hk, h1, _⟩
 exact h1 (List.eq_of_mem_replicate hk)
theorem len_hide {K : Nat} {S : List (List Int)} (hS : TmOk S K) {l : List Int} (h : l ∈ S.map hideL) : l.length = K := by
 obtain ⟨r, hr, rfl⟩ := List.mem_map.1 h
 unfold hideL
 rw [List.length_map]
 exact (hS.row r hr).1
theorem no_hide {K : Nat} {S : List (List Int)} (hS : TmOk S K) : ¬ ∃ l ∈ S.map hideL, ((l.length : Int) ≠ K ∨ ∃ n ∈ l, ¬ (1 ≤ n ∧ n ≤ 500)) := by
 rintro ⟨l, hl, h | ⟨n, hn, h⟩⟩
 ·exact h (by have := len_hide hS hl; omega)
 ·obtain ⟨r, hr, rfl⟩ := List.mem_map.1 hl
  obtain ⟨x, hx, rfl⟩ := List.mem_map.1 hn
  have := (hS.row r hr).2 x hx
  omega
set_option maxRecDepth 100000 in
theorem c_isRegister {K : Nat} {S : List (List Int)} (hS : TmOk S K) (H : List Blk) : ACall Tryz.prog 63 [eReg K S] H (.ret (nb true)) H := by
 have hn := hS.n
 have hk := hS.k
 have hrl : (List.replicate K (1 : Int)).length = K := List.length_replicate
 have hml : (S.map hideL).length = S.length := List.length_map _
 refine fn_rule (m := false) (fn := Tryz.f63) (c := (Tryz.f63.body).getD .skip) mixed (by kernel_rfl) (by kernel_rfl) (of_decide_eq_true (by kernel_rfl)) ?_ ?_ ?_ H
 ·exact ⟨⟨under_eInts _ _, under_eLists _ _, trivial, trivial, trivial, trivial, trivial, trivial, trivial⟩, trivial⟩
 ·exact trivial
 ·refine CallG.bool (c_hin _ 1 6) (fun _ => ?_) (fun h => absurd (by omega) h)
  refine CallG.bool (c_hin _ 1 6) (fun _ => ?_) (fun h => absurd (by omega) h)
  refine CallG.pure _ (c_isSpan) ?_
  refine CallG.pure _ (c_isSpan) ?_
  refine CallG.bool (c_hin 1 1 5) (fun _ => ?_) (fun h => absurd (by decide) h)
  refine CallG.bool (c_hin 0 0 2) (fun _ => ?_) (fun h => absurd (by decide) h)
  refine ifN ?_
  refine CallG.fresh (n0 := 1) [eInts (List.replicate K 1), clo 120 []] [(0, rBox K S)] rfl (.cons (fun H => WeakH.refl _ H) (.cons wk_clo .nil)) ⟨bk rfl rfl, trivial⟩ ?_
  refine CallG.atB (p := ∃ k ∈ List.replicate K (1 : Int), (k ≠ 1 ∧ k ≠ 2)) (fun H hH => c_containsK (n0 := 1) (L0 := [(0, rBox K S)]) (leb rfl) ⟨bk rfl rfl, trivial⟩ 120 [] trivial (fun k => k ≠ 1 ∧ k ≠ 2) _ (by omega) rfl (fun k _ H _ => c_badKind k H) H (hH.sub ⟨bk rfl rfl, trivial⟩)) (fun h4 => absurd h4 no_kind) (fun _ => ?_)
  refine CallG.atB (p := ∃ l ∈ S.map hideL, ((l.length : Int) ≠ K ∨ ∃ n ∈ l, ¬ (1 ≤ n ∧ n ≤ 500))) (fun H hH => c_containsL (n0 := 1) (L0 := [(0, rBox K S)]) (leb rfl) ⟨bk rfl rfl, trivial⟩ 116 [.ptr 0 0] ⟨ltb rfl, trivial⟩ (fun l => (l.length : Int) ≠ K ∨ ∃ n ∈ l, ¬ (1 ≤ n ∧ n ≤ 500)) (S.map hideL) (by omega) rfl (fun l hl H hH => ?_) H (hH.sub ⟨bk rfl rfl, trivial⟩)) (fun h4 => absurd h4 (no_hide hS)) (fun _ => ?_)
  ·obtain ⟨H2, rfl⟩ := hH.first rfl
   exact c_badHide l (by have := len_hide hS hl; omega) H2
  ·exact ⟨.inl rfl, FinG.mk _ rfl rfl rfl⟩
end Go.Vm

namespace Go.Vm
open Go.Proofs
def TwinsV (S : List (List Int)) (l : List Nat) : AV := match preF (eqOn S l) S.length S.length with
 | some p => .tup [n' p.1, n' p.2, n' 0]
 | none => .tup [n' 0, n' 0, n' 5]
set_option maxRecDepth 100000 in
theorem c_Twins {K : Nat} {S : List (List Int)} (hS : TmOk S K) (H : List Blk) : ACall Tryz.prog 20 [eReg K S] H (.ret (TwinsV S (List.range K))) H := by
 have ht := c_twins (K := K) hS (l := List.range K) (by have := hS.k; rw [List.length_range]; omega) (fun c hc => List.mem_range.1 hc)
 unfold twinsV at ht
 unfold TwinsV
 cases hp : preF (eqOn S (List.range K)) S.length S.length with
 | none =>
  rw [hp] at ht
  refine fn_rule (m := false) (fn := Tryz.f20) (c := (Tryz.f20.body).getD .skip) mixed (by kernel_rfl) (by kernel_rfl) (of_decide_eq_true (by kernel_rfl)) ?_ ?_ ?_ H
  ·exact ⟨⟨under_eInts _ _, under_eLists _ _, trivial, trivial, trivial, trivial, trivial, trivial, trivial⟩, trivial⟩
  ·exact ⟨trivial, trivial, trivial, trivial⟩
  ·refine CallG.pure _ (c_isRegister hS) ?_
   refine ifN ?_
   refine CallG.pure _ (c_every (by have := hS.k; omega)) ?_
   refine CallG.pure _ (ht) ?_
   refine ifY ?_
   exact ⟨.inl rfl, FinG.mk _ rfl rfl rfl⟩
 | some p =>
  rw [hp] at ht
  refine fn_rule (m := false) (fn := Tryz.f20) (c := (Tryz.f20.body).getD .skip) mixed (by kernel_rfl) (by kernel_rfl) (of_decide_eq_true (by kernel_rfl)) ?_ ?_ ?_ H
  ·exact ⟨⟨under_eInts _ _, under_eLists _ _, trivial, trivial, trivial, trivial, trivial, trivial, trivial⟩, trivial⟩
  ·exact ⟨trivial, trivial, trivial, trivial⟩
  ·refine CallG.pure _ (c_isRegister hS) ?_
   refine ifN ?_
   refine CallG.pure _ (c_every (by have := hS.k; omega)) ?_
   refine CallG.pure _ (ht) ?_
   refine ifN ?_
   exact ⟨.inl rfl, FinG.mk _ rfl rfl rfl⟩
end Go.Vm

namespace Go.Vm
open Go.Proofs
theorem appT_cut {P : Program} {m : Bool} {g : Nat → Option Blk} {n sT xT e size bytes len k id gen : Nat} {z : Value} {cells new : List AV} {x : AV} (h1 : tslice P sT = some e) (h2 : tsz P e = some size) (h3 : tz P e = some z) (h4 : tbytes P e = some bytes)
  (h5 : (tsrc P xT && (decide (bytes ≤ 2097152) && decide (z.cells.size = size))) = true) (h6 : srcT g size x = some (k, new)) (h7 : 0 < k) (h8 : len * size ≤ cells.length) (h9 : len + k ≤ 2097152) (h10 : g id = some (.mrow gen cells)) (h11 : new.all AV.one = true) :
  appT P m g n sT xT (.msl id gen len size) x = some (.msl id (gen + 1) (len + k) size, .set id (.mrow (gen + 1) (cells.take (len * size) ++ new))) := by
 unfold appT
 simp only [h1, h2, h3, h4, h5, h6, h10, if_true]
 rw [if_neg (by omega), if_pos ⟨trivial, trivial, h8, h9, h11⟩]
theorem aop_sliceM {P : Program} {m : Bool} {g : Nat → Option Blk} {n : Nat} {ρ : Operand → Option AV} {o : Oper} {t e : TypeId} {x h : Operand} {id gen len k : Nat} {kk : IntKind} {z : Int} (ho : o.op = .slice t x none (some h) none) (hx : ρ x = some (.msl id gen len 1)) (hh : ρ h = some (.lit (.int kk z))) (hu : P.underlying t = some (.slice e)) (hs : tsz P e = some 1) (hz : z = (k : Int)) (hk : k ≤ len) :
  aopF P m g n ρ o = some (.val (.msl id gen k 1) .same) := by
 rw [aopF_fun]
 obtain ⟨dst, op, ty, pos, after, guard⟩ := o
 simp only at ho
 subst ho
 subst hz
 have e1 : sliceA P t (.msl id gen len 1) none (some k) none = some (.msl id gen k 1) := by
  unfold sliceA
  simp only [hu, hs]
  rw [if_pos ⟨rfl, rfl, hk, trivial⟩]
  rfl
 have e2 : natOf (some (AV.lit (.int kk (k : Int)))) = some (some k) := by
  show (if 0 ≤ (k : Int) then some (some (k : Int).toNat) else none) = _
  rw [if_pos (Int.natCast_nonneg k)]
  rfl
 simp only [aopT, plainT, aop, hx, hh, Option.bind_none, Option.bind_some, show natOf none = some none from rfl, e2, e1, beq_self_eq_true, Option.isSome_none, Option.isSome_some, Bool.and_self, if_true, Option.map_some]
theorem fn_keepE {P : Program} {m : Bool} {f : FuncId} {fn : Func} {c : Code} {args : List AV} {L : List (Nat × Blk)} {p : Nat} (Sp : AV → List (Nat × Blk) → Prop) (hm : P.follows .mixedOrders = true) (hf : P.funcs[f]? = some fn) (hb : fn.body = some c) (hn : args.length ≤ fn.ntmps)
  (hL : Numd 0 L) (hp1 : L.length = p)
  (h : gCode P m fn.ntmps none c (initVars 0 args) (ofL L) p [] noLo fun x e _ => ∃ v L', Sp v L' ∧ v.flat = true ∧ Numd 0 L' ∧ L'.length = p ∧ (∀ q ∈ L', q.2.under p) ∧ (x = .ret ∨ x = .normal) ∧ Blks (get e.t) noLo L' ∧ FinF P fn.results.toList e v) : ∃ v L', Sp v L' ∧ ACall P f args (hp L) (.ret v) (hp L') := by
 obtain ⟨x, e, lo, H', hH', hk', hrun, v, L', hS, hv, hL', hp2, hu', hx, hB, vs, hres, hd, hfr⟩ := gCode_spec hm c _ _ _ _ _ _ h _ _ (HT.full hL hp1) (Keep.refl _ _)
 have hcr : ACall P f args (hp L) (.ret (resV vs)) H' := by
  rw [hd] at hrun
  exact ACall.intro_marks hf hb hn hrun hx List.nodup_nil (resT_sound hH' hres)
 subst hfr
 have e1 : (hp L).length = L'.length := by simp [hp1, hp2]
 have e2 : H'.take (hp L).length = hp L' := by
  rw [e1]
  exact take_full hL' fun q hq => hH'.blk _ _ (hB.mem q hq).1
 have h3 := hcr.cut (AV.flat_under _ _ hv) (by
  rw [e2]
  intro B hBm
  obtain ⟨q, hq, rfl⟩ := List.mem_map.1 hBm
  rw [e1, hp2]; exact hu' q hq)
 rw [e2] at h3
 exact ⟨_, L', hS, h3⟩
theorem InL.ghostM {P : Program} {ro : Option Nat} {c : Code} {k : Nat} {V : Trie AV} {H : List Blk} {d : List Nat} {x : AExit} {σ' : St} (h : InL P ro c ⟨k, V, H ++ [.mrow 0 []], d⟩ x σ') : InL P ro c ⟨k, V, H, d⟩ x σ' := by
 intro O ι a w cro hro hs b kk cs hbro hb hr
 have hev : Ev ⟨H, ι, w⟩ ⟨H ++ [.mrow 0 []], ι, w⟩ := Ev.fresh hs.rel (w' := w) (H2 := [.mrow 0 []]) (fun _ _ => rfl) ⟨rfl, rfl⟩
 have hR : Rel ⟨H ++ [.mrow 0 []], ι, w⟩ := Rel.fresh hs.rel (w' := w) (H2 := [.mrow 0 []]) (fun _ _ => rfl) ⟨rfl, rfl⟩
 have hnon : Non ⟨H, ι, w⟩ ⟨H ++ [.mrow 0 []], ι, w⟩ := fun _ _ h => h
 obtain ⟨e', a', w', hp, harr⟩ := h O ι a w cro (hro.ev hev) ⟨hR, hs.size, hs.vars.ev hev, hs.defs.ev hev (keepsD_append _ _)⟩ b kk cs hbro hb hr
 exact ⟨e', a', w', Post.trans hev hnon _ _ _ hp, harr⟩
theorem LoopG.ghostM {P : Program} {ro : Option Nat} {c : Code} {k : Nat} {vars : Trie AV} {t : Trie Blk} {n : Nat} {d : List Nat} {lo : Nat} {Q : CodeQ} (h : LoopG P ro c k vars (set t n (.mrow 0 [])) (n + 1) d lo Q) : LoopG P ro c k vars t n d lo Q := by
 obtain ⟨h⟩ := h
 refine ⟨fun H H0 hH hk => ?_⟩
 obtain ⟨x, e, lo', H', h1, h2, h3, h4⟩ := h (H ++ [.mrow 0 []]) H0 (hH.push _) (hk.trans (Keep.append H _ lo) (Nat.le_refl _) (Nat.le_refl _))
 exact ⟨x, e, lo', H', h1, h2, h3.ghostM, h4⟩
theorem Weak.nilM {t : Trie Blk} {r g : Nat} {cells : List AV} (sz : Nat) (hr : get t r = some (.mrow g cells)) : Weak t (.lit (.slice none 0 0)) (.msl r g 0 sz) := fun _ _ hH _ _ _ _ h => by
 simp only [VRel] at h ⊢
 subst h
 exact ⟨none, 0, rfl, Nat.le_refl _, .inr ⟨rfl, rfl, .mrow g cells, g, hH.blk _ _ hr, rfl, Nat.le_refl _⟩⟩
theorem freezeRow_pre {g : Nat → Option Blk} {id gen : Nat} {l : List Int} {cells : List AV} (hg : g id = some (.mrow gen cells)) (hc : cells.take l.length = l.map n') : freezeRow g id gen l.length 1 = eInts l := by
 have hl := congrArg List.length hc
 rw [List.length_take, List.length_map] at hl
 unfold freezeRow
 rw [hg]
 simp only [Nat.mul_one, Nat.beq_refl, Bool.true_and]
 rw [show Nat.ble l.length cells.length = true from Nat.ble_eq_true_of_le (by omega), cond_true, hc]
 unfold eInts
 rw [forgets_ints]
end Go.Vm

namespace Go.Vm
open Go.Proofs
theorem app_intC {m : Bool} {g : Nat → Option Blk} {n len id gen : Nat} {cells : List AV} {l : List Int} {a : Int} (h1 : l.length = len) (h0 : cells.take len = l.map n') (h2 : len < 2097152) (hg : g id = some (.mrow gen cells)) :
  appT Tryz.prog m g n 30 30 (.msl id gen len 1) (.sl 1 [n' a] .full) = some (.msl id (gen + 1) (len + 1) 1, .set id (.mrow (gen + 1) ((l ++ [a]).map n'))) := by
 have hl := congrArg List.length h0
 rw [List.length_take, List.length_map] at hl
 rw [appT_cut (e := 3) (bytes := 8) (z := .int .i64 0) (by kernel_rfl) (by kernel_rfl) (by kernel_rfl) (by kernel_rfl) (by kernel_rfl) (rfl : srcT g 1 (.sl 1 [n' a] .full) = some (1, [n' a])) (by omega) (by omega) (by omega) hg rfl, Nat.mul_one, h0, List.map_append]
 rfl
noncomputable def plL (K : Nat) (S : List (List Int)) (g len : Nat) (cells : List AV) : List (Nat × Blk) :=
 [(0, rBox K S), (1, .box [.msl 3 g len 1] 30), (2, .box [.fn (.func 66) [] [.ptr 0 0, .ptr 1 0, .ptr 2 0]] 121), (3, .mrow g cells)]
def PlC (l : List Nat) (cells : List AV) : Prop := cells.take l.length = (cuesI l).map n' ∧ ∀ n, AV.unders n cells
theorem plL_numd (K : Nat) (S : List (List Int)) (g len : Nat) (cells : List AV) : Numd 0 (plL K S g len cells) := ⟨rfl, rfl, rfl, rfl, trivial⟩
theorem plL_under {K : Nat} {S : List (List Int)} {g len : Nat} {cells : List AV} (h : ∀ n, AV.unders n cells) : ∀ q ∈ plL K S g len cells, q.2.under 4 := by
 intro q hq
 simp only [plL, List.mem_cons, List.not_mem_nil, or_false] at hq
 rcases hq with rfl | rfl | rfl | rfl
 ·exact rBox_under _ _ _
 ·exact ⟨ltb rfl, trivial⟩
 ·exact ⟨⟨trivial, ltb rfl, ltb rfl, ltb rfl, trivial⟩, trivial⟩
 ·exact h 4
theorem ints_under (l : List Int) (n : Nat) : AV.unders n (l.map n') := by
 induction l with
 | nil => exact trivial
 | cons x l ih => exact ⟨trivial, ih⟩
theorem PlC.new (l : List Nat) : PlC l ((cuesI l).map n') := ⟨List.take_of_length_le (by simp [cuesI]), ints_under _⟩
def okT (S : List (List Int)) (l : List Nat) : Bool := (preF (eqOn S l) S.length S.length).isNone
theorem okT_sep (S : List (List Int)) (l : List Nat) : okT S l = sepI S l := by
 rw [Bool.eq_iff_iff, sepI_iff, okT, Option.isNone_iff_eq_none, preF_none]
 exact ⟨fun h a b h1 h2 => h a b (by omega) h1 h2, fun h a b _ h1 h2 => h a b h1 h2⟩
theorem twinsV_ok (S : List (List Int)) (l : List Nat) : ∃ a b : Int, twinsV S l = .tup [n' a, n' b, nb (!okT S l)] := by
 unfold twinsV okT
 cases preF (eqOn S l) S.length S.length with
 | none => exact ⟨_, _, rfl⟩
 | some p => exact ⟨_, _, rfl⟩
set_option maxHeartbeats 4000000 in
set_option maxRecDepth 100000 in
theorem c_search0 {K : Nat} {S : List (List Int)} (hS : TmOk S K) {l : List Nat} (hl : l.length ≤ 4) (hlK : ∀ c ∈ l, c < K) {g : Nat} {cells : List AV} (hc : PlC l cells) (a : Int) :
  ACall Tryz.prog 66 [n' a, n' 0, .ptr 0 0, .ptr 1 0, .ptr 2 0] (hp (plL K S g l.length cells)) (.ret (nb (okT S l))) (hp (plL K S g l.length cells)) := by
 have hli : (cuesI l).length = l.length := by simp [cuesI]
 refine fn_keep (m := true) (fn := Tryz.f66) (c := (Tryz.f66.body).getD .skip) (p := 4) mixed (by kernel_rfl) (by kernel_rfl) (of_decide_eq_true (by kernel_rfl)) rfl (plL_numd _ _ _ _ _) (plL_numd _ _ _ _ _) rfl rfl (plL_under hc.2) ?_
 obtain ⟨p, q, ht⟩ := twinsV_ok S l
 have hct : ∀ H, ACall Tryz.prog 64 [eReg K S, .sl l.length ((cuesI l).map n') .unk] H (.ret (.tup [n' p, n' q, nb (!okT S l)])) H := fun H => by
  have h := c_twins hS hl hlK H
  rw [ht] at h
  unfold eInts at h
  rwa [hli] at h
 refine If.mk (fun _ => ?_) (fun h => absurd (by decide) h)
 refine ifY ?_
 refine CallG.borrowM (.tup [n' p, n' q, nb (!okT S l)]) (.tup fun a ha => ?_) (id := 3) (gen := g) (N := l.length) (cells := (cuesI l).map n') rfl hc.1 (ints_under _ _) (by rw [List.length_map]; exact hli) (.same ⟨under_eInts _ _, under_eLists _ _, trivial, trivial, trivial, trivial, trivial, trivial, trivial⟩ (.this .nil)) hct ?_
 ·simp only [List.mem_cons, List.not_mem_nil, or_false] at ha
  rcases ha with rfl | rfl | rfl <;> exact ⟨_, rfl⟩
 refine ⟨.inl rfl, ⟨bk rfl rfl, bk rfl rfl, bk rfl rfl, bk rfl rfl, trivial⟩, FinF.mk _ rfl rfl ?_⟩
 show nb (!(!okT S l)) = nb (okT S l)
 rw [Bool.not_not]
def Srch (K : Nat) (S : List (List Int)) (m : Nat) : Prop := ∀ (d : Nat) (l : List Nat) (g : Nat) (cells : List AV) (a b : Int), a = (K : Int) - d → b = m → d ≤ K → l.length + m ≤ 4 → (∀ c ∈ l, c < K) → PlC l cells →
 ∃ g' cells', PlC ((firstI (okT S) K m d l).getD l) cells' ∧ ACall Tryz.prog 66 [n' a, n' b, .ptr 0 0, .ptr 1 0, .ptr 2 0] (hp (plL K S g l.length cells)) (.ret (nb (firstI (okT S) K m d l).isSome)) (hp (plL K S g' ((firstI (okT S) K m d l).getD l).length cells'))
theorem srch0 {K : Nat} {S : List (List Int)} (hS : TmOk S K) : Srch K S 0 := by
 intro d l g cells a b ha hb hd hl hlK hc
 subst hb
 refine ⟨g, cells, ?_, ?_⟩
 ·unfold firstI
  split <;> exact hc
 ·have h := c_search0 hS (by omega) hlK (g := g) hc a
  unfold firstI
  by_cases ho : okT S l = true
  ·rw [if_pos ho]
   rw [ho] at h
   exact h
  ·rw [if_neg ho]
   rw [Bool.eq_false_iff.2 ho] at h
   exact h
set_option maxHeartbeats 4000000 in
set_option maxRecDepth 100000 in
theorem srchS {K : Nat} {S : List (List Int)} (hS : TmOk S K) {m : Nat} (ih : Srch K S m) : Srch K S (m + 1) := by
  intro d l g cells a b ha hb hd hl hlK hc
  subst hb
  have hK := hS.k
  have hli : (cuesI l).length = l.length := by simp [cuesI]
  have ha' : a = ((K - d : Nat) : Int) := by omega
  have key : ∃ v L', (∃ g' cells', v = nb (firstI (okT S) K (m + 1) d l).isSome ∧ PlC ((firstI (okT S) K (m + 1) d l).getD l) cells' ∧ L' = plL K S g' ((firstI (okT S) K (m + 1) d l).getD l).length cells') ∧
      ACall Tryz.prog 66 [n' a, n' ((m + 1 : Nat) : Int), .ptr 0 0, .ptr 1 0, .ptr 2 0] (hp (plL K S g l.length cells)) (.ret v) (hp L') := by
    refine fn_keepE (m := true) (fn := Tryz.f66) (c := (Tryz.f66.body).getD .skip) (p := 4) _ mixed (by kernel_rfl) (by kernel_rfl) (of_decide_eq_true (by kernel_rfl)) (plL_numd _ _ _ _ _) rfl ?_
    refine If.mk (fun h => absurd h (by omega)) (fun _ => ?_)
    refine ifN ?_
    refine LoopG.at (n0 := 4) rfl ?_
    refine loop_r (α := { p : Nat × Nat × List AV // p.1 ≤ d ∧ PlC l p.2.2 ∧ goI (firstI (okT S) K m) K d l = goI (firstI (okT S) K m) K p.1 l }) mixed (m := true) (fun p => [(1, n' ((m + 1 : Nat) : Int)), (2, .ptr 0 0), (3, .ptr 1 0), (4, .ptr 2 0), (7, nb false), (11, n' ((K - p.1.1 : Nat) : Int))]) (fun p => plL K S p.1.2.1 l.length p.1.2.2) (fun p => p.1.1) 1 ⟨(d, g, cells), Nat.le_refl _, hc, rfl⟩ (leb rfl) ?_ ?_ ?_
    · exact ⟨wp rfl trivial, wp rfl (ltb rfl), wp rfl (ltb rfl), wp rfl (ltb rfl), wp rfl trivial, ⟨_, rfl, Weak.of_eq (congrArg n' ha'), trivial⟩, trivial⟩
    · exact ⟨bk rfl rfl, bk rfl rfl, bk rfl rfl, bk rfl rfl, trivial⟩
    rintro ⟨⟨q, g1, cells1⟩, hq, hc1, he⟩
    have hrl : (List.replicate K (1 : Int)).length = K := List.length_replicate
    cases q with
    | zero =>
      refine If.mk (fun h => absurd h (by show ¬ (((K - 0 : Nat) : Int) < _); omega)) (fun _ => ?_)
      refine ifN ?_
      refine ⟨leb rfl, nb false, plL K S g1 l.length cells1, ⟨g1, cells1, ?_⟩, rfl, plL_numd _ _ _ _ _, rfl, plL_under hc1.2, .inl rfl, ⟨bk rfl rfl, bk rfl rfl, bk rfl rfl, bk rfl rfl, trivial⟩, FinF.mk _ rfl rfl rfl⟩
      have e : firstI (okT S) K (m + 1) d l = none := he
      rw [e]
      exact ⟨rfl, hc1, rfl⟩
    | succ q =>
      have hq' : q + 1 ≤ d := hq
      have hcl : cells1.take l.length = (cuesI l).map n' := hc1.1
      have hcu : cuesI (l ++ [K - (q + 1)]) = cuesI l ++ [((K - (q + 1) : Nat) : Int)] := by simp [cuesI]
      have hnew : PlC (l ++ [K - (q + 1)]) ((cuesI l ++ [((K - (q + 1) : Nat) : Int)]).map n') := by rw [← hcu]; exact PlC.new _
      obtain ⟨g2, cells2, hc2, hcall⟩ := ih q (l ++ [K - (q + 1)]) (g1 + 1) _ (((K - (q + 1) : Nat) : Int) + 1) (((m + 1 : Nat) : Int) - 1) (by omega) (by omega) (by omega) (by simp; omega) (by
        intro c hc
        rcases List.mem_append.1 hc with h | h
        · exact hlK c h
        · simp at h; omega) hnew
      have hll : (l ++ [K - (q + 1)]).length = l.length + 1 := by simp
      rw [hll] at hcall
      have hgo : firstI (okT S) K (m + 1) d l = match firstI (okT S) K m q (l ++ [K - (q + 1)]) with
        | some l => some l
        | none => goI (firstI (okT S) K m) K q l := he
      cases hr : firstI (okT S) K m q (l ++ [K - (q + 1)]) with
      | some r =>
        rw [hr] at hcall hc2 hgo
        refine If.mk (fun _ => ?_) (fun h => absurd (show (((K - (q + 1) : Nat) : Int) < _) by omega) h)
        refine ifY ?_
        refine ex_app _ _ (app_intC (l := cuesI l) hli hcl (by omega) rfl) ?_
        refine Side.mk (fits64 (by omega)) ?_
        refine Side.mk (fits64 (by omega)) ?_
        refine CallG.pre _ (plL K S (g1 + 1) (l.length + 1) ((cuesI l ++ [((K - (q + 1) : Nat) : Int)]).map n')) (plL K S g2 r.length cells2) (nb true) 1 (.cons (fun H => WeakH.refl _ H) (.cons (fun H => WeakH.refl _ H) (.cons (fun H => WeakH.refl _ H) (.cons (fun H => WeakH.refl _ H) (.cons (fun H => WeakH.refl _ H) .nil))))) (plL_numd _ _ _ _ _) (plL_numd _ _ _ _ _) rfl (.cons (fun e => by cases e) (.cons (fun e => by cases e) (.cons (fun e => by cases e) (.cons (fun e => by cases e) .nil)))) ⟨bk rfl rfl, bk rfl rfl, bk rfl rfl, bk rfl rfl, trivial⟩ rfl ⟨trivial, trivial, ltb rfl, ltb rfl, ltb rfl, trivial⟩ rfl (plL_under hnew.2) (plL_under hc2.2) hcall ?_
        refine ifY ?_
        refine ⟨leb rfl, nb true, plL K S g2 r.length cells2, ⟨g2, cells2, ?_⟩, rfl, plL_numd _ _ _ _ _, rfl, plL_under hc2.2, .inl rfl, ⟨bk rfl rfl, bk rfl rfl, bk rfl rfl, bk rfl rfl, trivial⟩, FinF.mk _ rfl rfl rfl⟩
        rw [hgo]
        exact ⟨rfl, hc2, rfl⟩
      | none =>
        have hstep : ((K - (q + 1) : Nat) : Int) + 1 = ((K - q : Nat) : Int) := by omega
        have hgoN : goI (firstI (okT S) K m) K (q + 1) l = goI (firstI (okT S) K m) K q l := by
          show (match firstI (okT S) K m q (l ++ [K - (q + 1)]) with
            | some l => some l
            | none => goI (firstI (okT S) K m) K q l) = _
          rw [hr]
        rw [hr] at hcall hc2 hgo
        rw [show ((none : Option (List Nat)).getD (l ++ [K - (q + 1)])).length = l.length + 1 from hll] at hcall
        have hc3 : PlC l cells2 := by
          refine ⟨?_, hc2.2⟩
          have := congrArg (List.take l.length) hc2.1
          simp only [Option.getD_none, List.take_take] at this
          rw [hll, Nat.min_eq_left (by omega), hcu, List.map_append, List.take_left' (by rw [List.length_map]; exact hli)] at this
          exact this
        refine If.mk (fun _ => ?_) (fun h => absurd (show (((K - (q + 1) : Nat) : Int) < _) by omega) h)
        refine ifY ?_
        refine ex_app _ _ (app_intC (l := cuesI l) hli hcl (by omega) rfl) ?_
        refine Side.mk (fits64 (by omega)) ?_
        refine Side.mk (fits64 (by omega)) ?_
        refine CallG.pre _ (plL K S (g1 + 1) (l.length + 1) ((cuesI l ++ [((K - (q + 1) : Nat) : Int)]).map n')) (plL K S g2 (l.length + 1) cells2) (nb false) 1 (.cons (fun H => WeakH.refl _ H) (.cons (fun H => WeakH.refl _ H) (.cons (fun H => WeakH.refl _ H) (.cons (fun H => WeakH.refl _ H) (.cons (fun H => WeakH.refl _ H) .nil))))) (plL_numd _ _ _ _ _) (plL_numd _ _ _ _ _) rfl (.cons (fun e => by cases e) (.cons (fun e => by cases e) (.cons (fun e => by cases e) (.cons (fun e => by cases e) .nil)))) ⟨bk rfl rfl, bk rfl rfl, bk rfl rfl, bk rfl rfl, trivial⟩ rfl ⟨trivial, trivial, ltb rfl, ltb rfl, ltb rfl, trivial⟩ rfl (plL_under hnew.2) (plL_under hc2.2) hcall ?_
        refine ifN ?_
        refine Side.mk (fits64 (by omega)) ?_
        refine Ex.mk _ (aop_sliceM (e := 3) (k := l.length) rfl rfl rfl (by kernel_rfl) (by kernel_rfl) (by omega) (by omega)) ?_
        refine Side.mk (fits64 (by omega)) ?_
        refine ⟨leb rfl, rfl, ⟨(q, g2, cells2), by omega, hc3, he.trans hgoN⟩, Nat.lt_succ_self q, ⟨wp rfl trivial, wp rfl (ltb rfl), wp rfl (ltb rfl), wp rfl (ltb rfl), wp rfl trivial, ⟨_, rfl, Weak.of_eq (congrArg n' hstep), trivial⟩, trivial⟩, ⟨bk rfl rfl, bk rfl rfl, bk rfl rfl, bk rfl rfl, trivial⟩, ⟨_, rfl, ⟨ltb rfl, trivial⟩⟩, ⟨_, rfl, ⟨trivial, ltb rfl, ltb rfl, ltb rfl, trivial⟩, trivial⟩, ⟨_, rfl, hc2.2 4⟩, trivial⟩
  obtain ⟨v, L', ⟨g', cells', rfl, h1, rfl⟩, h2⟩ := key
  exact ⟨g', cells', h1, h2⟩
def PlanV : Option (List Nat) → AV
 | some l => .tup [eInts (cuesI l), n' 0]
 | none => .tup [.lit (.slice none 0 0), n' 5]
theorem srch {K : Nat} {S : List (List Int)} (hS : TmOk S K) : ∀ m, Srch K S m
 | 0 => srch0 hS
 | m + 1 => srchS hS (srch hS m)
set_option maxHeartbeats 4000000 in
set_option maxRecDepth 100000 in
theorem c_Plan {K : Nat} {S : List (List Int)} (hS : TmOk S K) (H : List Blk) : ACall Tryz.prog 21 [eReg K S] H (.ret (PlanV (planI (okT S) K (K + 1)))) H := by
  have hK := hS.k
  have hrl : (List.replicate K (1 : Int)).length = K := List.length_replicate
  refine fn_rule (m := true) (fn := Tryz.f21) (c := (Tryz.f21.body).getD .skip) mixed (by kernel_rfl) (by kernel_rfl) (of_decide_eq_true (by kernel_rfl)) ?_ ?_ ?_ H
  · exact ⟨⟨under_eInts _ _, under_eLists _ _, trivial, trivial, trivial, trivial, trivial, trivial, trivial⟩, trivial⟩
  · cases planI (okT S) K (K + 1) with
    | none => exact ⟨trivial, trivial, trivial⟩
    | some l => exact ⟨under_eInts _ _, trivial, trivial⟩
  · refine CallG.pure _ (c_isRegister hS) ?_
    refine ifN ?_
    refine Side.mk (fits64 (by omega)) ?_
    refine LoopG.at (n0 := 3) rfl ?_
    refine LoopG.ghostM ?_
    refine LoopG.box (n := 4) 1 [.msl 3 0 0 1] 1 (leb rfl) (leb rfl) rfl ?_ ?_
    · exact .cons (Weak.nilM 1 rfl) (Weaks'.nil _)
    refine loop_r (α := { p : Nat × Nat × List AV // p.1 ≤ K + 1 ∧ (∀ n, AV.unders n p.2.2) ∧ planI (okT S) K (K + 1) = planI (okT S) K (K + 1 - p.1) }) mixed (m := true) (fun p => [(1, .ptr 0 0), (4, .ptr 1 0), (5, .ptr 2 0), (14, n' ((K : Int) + 1)), (15, n' (p.1.1 : Int))]) (fun p => plL K S p.1.2.1 0 p.1.2.2) (fun p => K + 1 - p.1.1) 1 ⟨(0, 0, []), Nat.zero_le _, fun _ => trivial, rfl⟩ (leb rfl) ?_ ?_ ?_
    · exact ⟨wp rfl (ltb rfl), wp rfl (ltb rfl), wp rfl (ltb rfl), ⟨_, rfl, Weak.of_eq (congrArg n' (by rw [hrl])), trivial⟩, wp rfl trivial, trivial⟩
    · exact ⟨bk rfl rfl, bk rfl rfl, bk rfl rfl, bk rfl rfl, trivial⟩
    rintro ⟨⟨q, g1, cells1⟩, hq, hc1, he⟩
    have hq' : q ≤ K + 1 := hq
    by_cases hqk : q = K + 1
    · subst hqk
      refine If.mk (fun h => absurd h (by show ¬ (((K + 1 : Nat) : Int) < _); omega)) (fun _ => ?_)
      refine ifN ?_
      refine ⟨leb rfl, .inl rfl, FinG.mk _ rfl rfl ?_⟩
      have e : planI (okT S) K (K + 1) = none := by
        rw [he]
        show planI (okT S) K (K + 1 - (K + 1)) = none
        rw [Nat.sub_self]
        rfl
      exact Eq.trans rfl (congrArg PlanV e.symm)
    · have e2 : planI (okT S) K (K + 1 - q) = match firstI (okT S) K q K [] with
          | some l => some l
          | none => planI (okT S) K (K - q) := by
        rw [show K + 1 - q = (K - q) + 1 by omega]
        show (match firstI (okT S) K (K - (K - q)) K [] with
          | some l => some l
          | none => planI (okT S) K (K - q)) = _
        rw [show K - (K - q) = q by omega]
      obtain ⟨g2, cells2, hc2, hcall⟩ := srch hS q K [] g1 cells1 0 (q : Int) (by omega) rfl (Nat.le_refl _) (by simp; omega) (by simp) ⟨rfl, hc1⟩
      cases hr : firstI (okT S) K q K [] with
      | some l =>
        rw [hr] at e2 hcall hc2
        refine If.mk (fun _ => ?_) (fun h => absurd (show ((q : Int) < (K : Int) + 1) by omega) h)
        refine ifY ?_
        refine CallG.pre _ (plL K S g1 0 cells1) (plL K S g2 l.length cells2) (nb true) 1 (.cons (fun H => WeakH.refl _ H) (.cons (fun H => WeakH.refl _ H) (.cons (fun H => WeakH.refl _ H) (.cons (fun H => WeakH.refl _ H) (.cons (fun H => WeakH.refl _ H) .nil))))) (plL_numd _ _ _ _ _) (plL_numd _ _ _ _ _) rfl (.cons (fun e => by cases e) (.cons (fun e => by cases e) (.cons (fun e => by cases e) (.cons (fun e => by cases e) .nil)))) ⟨bk rfl rfl, bk rfl rfl, bk rfl rfl, bk rfl rfl, trivial⟩ rfl ⟨trivial, trivial, ltb rfl, ltb rfl, ltb rfl, trivial⟩ rfl (plL_under hc1) (plL_under hc2.2) hcall ?_
        refine ifY ?_
        refine ⟨leb rfl, .inl rfl, FinG.mk _ rfl rfl ?_⟩
        refine Eq.trans ?_ (congrArg PlanV (he.trans e2).symm)
        have hcl : (cuesI l).length = l.length := by simp [cuesI]
        have := freezeRow_pre (g := get (setL (ofL (plL K S g1 0 cells1)) (plL K S g2 l.length cells2))) (id := 3) (gen := g2) (l := cuesI l) (cells := cells2) rfl (by rw [hcl]; exact hc2.1)
        rw [hcl] at this
        show AV.tup [freezeRow _ 3 g2 l.length 1, n' 0] = AV.tup [eInts (cuesI l), n' 0]
        rw [← this]
      | none =>
        rw [hr] at e2 hcall hc2
        refine If.mk (fun _ => ?_) (fun h => absurd (show ((q : Int) < (K : Int) + 1) by omega) h)
        refine ifY ?_
        refine CallG.pre _ (plL K S g1 0 cells1) (plL K S g2 0 cells2) (nb false) 1 (.cons (fun H => WeakH.refl _ H) (.cons (fun H => WeakH.refl _ H) (.cons (fun H => WeakH.refl _ H) (.cons (fun H => WeakH.refl _ H) (.cons (fun H => WeakH.refl _ H) .nil))))) (plL_numd _ _ _ _ _) (plL_numd _ _ _ _ _) rfl (.cons (fun e => by cases e) (.cons (fun e => by cases e) (.cons (fun e => by cases e) (.cons (fun e => by cases e) .nil)))) ⟨bk rfl rfl, bk rfl rfl, bk rfl rfl, bk rfl rfl, trivial⟩ rfl ⟨trivial, trivial, ltb rfl, ltb rfl, ltb rfl, trivial⟩ rfl (plL_under hc1) (plL_under hc2.2) hcall ?_
        refine ifN ?_
        refine Side.mk (fits64 (by omega)) ?_
        refine ⟨leb rfl, rfl, ⟨(q + 1, g2, cells2), by show q + 1 ≤ K + 1; omega, hc2.2, he.trans (e2.trans (congrArg _ (by show K - q = K + 1 - (q + 1); omega)))⟩, by show K + 1 - (q + 1) < K + 1 - q; omega, ⟨wp rfl (ltb rfl), wp rfl (ltb rfl), wp rfl (ltb rfl), wp rfl trivial, wp rfl trivial, trivial⟩, ⟨bk rfl rfl, bk rfl rfl, bk rfl rfl, bk rfl rfl, trivial⟩, ⟨_, rfl, ⟨ltb rfl, trivial⟩⟩, ⟨_, rfl, ⟨trivial, ltb rfl, ltb rfl, ltb rfl, trivial⟩, trivial⟩, ⟨_, rfl, hc2.2 4⟩, trivial⟩
end Go.Vm

namespace Go.Vm
open Go.Proofs
theorem lits_rel {O O' : Outer} {S S' : Sit} : ∀ {xs : List AV} {cs : List Value}, (∀ a ∈ xs, ∃ v, a = .lit v) → @VRels O S xs cs → @VRels O' S' xs cs
 | [], [], _, _ => by simp [VRels]
 | [], _ :: _, _, x => by simp [VRels] at x
 | _ :: _, [], _, x => by simp [VRels] at x
 | a :: xs, c :: cs, h, x => by
  simp only [VRels] at x ⊢
  obtain ⟨v, rfl⟩ := h a (by simp)
  have x1 := x.1
  simp only [VRel] at x1 ⊢
  exact ⟨x1, lits_rel (fun a ha => h a (by simp [ha])) x.2⟩
theorem map_moved {O O' : Outer} {S S' : Sit} {b wm wm' : Nat} {sh : KeyShape} {es : List (Value × AV)} (h : @BlkRel O S b wm (.map sh es)) (hes : ∀ p ∈ es, ∃ v, p.2 = .lit v) (hw : S'.w = S.w) : @BlkRel O' S' b wm' (.map sh es) := by
 obtain ⟨E, c, h1, ⟨es2, hp, k1, k2⟩, keys, nodup, stamps, born⟩ := h
 refine ⟨E, c, by rw [hw]; exact h1, ⟨es2, hp, k1, ?_⟩, keys, nodup, stamps, born⟩
 refine lits_rel (fun a ha => ?_) k2
 obtain ⟨p, hp2, rfl⟩ := List.mem_map.1 ha
 exact hes p (hp.mem_iff.1 hp2)
theorem ACall.frame_map {P : Program} {f : FuncId} {args : List AV} {sh : KeyShape} {es : List (Value × AV)} (h : ACall P f args [] (.ret (.mp 0)) [.map sh es]) (ha : AV.unders 0 args) (hes : ∀ p ∈ es, ∃ v, p.2 = .lit v) (H : List Blk) : ACall P f args H (.ret (.mp H.length)) (H ++ [.map sh es]) := by
 intro O ι w cs hR hargs
 have hR1 : @Rel O ⟨H, ι, w⟩ := hR
 have cut_none : ∀ {id : Nat} {p : Nat × Nat}, cutι ι 0 id = some p → False := fun {id p} e => by simp [cutι] at e
 have spec1 : ∀ {id b wm : Nat}, ι id = some (b, wm) → (hideO O H ι 0).out b = some (match H[id]? with | some (.row _) => some wm | _ => none) := fun hi => hideO_named hR1.inj (Nat.zero_le _) hi
 have spec2 : ∀ {b : Nat}, (∀ id wm, ι id ≠ some (b, wm)) → (hideO O H ι 0).out b = O.out b := fun hx => hideO_other fun id wm _ => hx id wm
 have p0 : Pass O (hideO O H ι 0) H [] ι (cutι ι 0) w 0 := by
  refine ⟨fun id hlt => absurd hlt (Nat.not_lt_zero _), fun id hlt => absurd hlt (Nat.not_lt_zero _), fun b lim hF => ?_⟩
  obtain ⟨C, t, f, a, hl, r, ro⟩ := hF
  refine ⟨C, t, f, a, hl, fun id wm e => (cut_none (id := id) e).elim, fun x e => ?_⟩
  by_cases hx : ∃ id wm, ι id = some (b, wm)
  ·obtain ⟨id, wm, hi⟩ := hx
   rw [spec1 hi] at e
   obtain ⟨⟨g, hg⟩, hlw⟩ := r id wm hi
   have hg' : H[id]? = some (.row g) := hg
   rw [hg'] at e
   cases e
   exact ⟨wm, rfl, hlw⟩
  ·rw [spec2 fun id wm hi => hx ⟨id, wm, hi⟩] at e
   exact ro x e
 have hR0 : @Rel (hideO O H ι 0) ⟨[], cutι ι 0, w⟩ := by
  refine @Rel.mk (hideO O H ι 0) _ (fun id b wm e => (cut_none (id := id) e).elim) (fun i j b wm wm' ei ej => (cut_none (id := i) ei).elim) (fun b x e => ⟨?_, fun i wm1 e1 => cut_none (id := i) e1⟩)
  by_cases hx : ∃ id wm, ι id = some (b, wm)
  ·obtain ⟨id, wm, hi⟩ := hx
   exact hR1.block hi
  ·have e' : O.out b = some x := by rw [← spec2 fun id wm hi => hx ⟨id, wm, hi⟩]; exact e
   exact (hR1.out b x e').1
 have hargs0 := VRels.pass p0 args cs.toList ha hargs
 have hcall := h (hideO O H ι 0) (cutι ι 0) w cs hR0 hargs0
 refine hcall.mono ?_
 rintro e w' ⟨ι', hend, hR', hev, hnon⟩
 have hR1' : @Rel (hideO O H ι 0) ⟨[.map sh es], ι', w'⟩ := hR'
 have hsame : ∀ {id b wm : Nat}, ι id = some (b, wm) → w'.heap[b]? = w.heap[b]? := fun hi => @Ev.out (hideO O H ι 0) _ _ hev _ _ (spec1 hi)
 have nohide : ∀ {b : Nat} {x : Option Nat}, O.out b = some x → (hideO O H ι 0).out b = some x := fun {b x} e => by
  rw [spec2 fun id wm hi => (hR1.out b x e).2 id wm hi]; exact e
 obtain ⟨ι2, hι2⟩ : ∃ ι2 : Nat → Option (Nat × Nat), ι2 = fun id => if id < H.length then ι id else if id = H.length then ι' 0 else none := ⟨_, rfl⟩
 have nlt : ∀ id, id < H.length → ι2 id = ι id := fun id hlt => by rw [hι2]; simp [hlt]
 have nat0 : ι2 H.length = ι' 0 := by rw [hι2]; simp
 have ngt : ∀ id, H.length < id → ι2 id = none := fun id hlt => by
  rw [hι2]
  show (if id < H.length then ι id else if id = H.length then ι' 0 else none) = none
  rw [if_neg (by omega), if_neg (by omega)]
 have look : ∀ id, id < H.length → (H ++ [Blk.map sh es])[id]? = H[id]? := fun id hlt => List.getElem?_append_left hlt
 have last : (H ++ [Blk.map sh es])[H.length]? = some (.map sh es) := by simp
 have hrest : Rest w w' := @Ev.rest (hideO O H ι 0) _ _ hev
 have hev' : @Ev O ⟨H, ι, w⟩ ⟨H ++ [.map sh es], ι2, w'⟩ := by
  refine @Ev.mk O _ _ (fun id hn => ?_) (fun b lim hF => ?_) (fun id g0 hg => ?_) (fun id g0 c0 hg => ?_) (fun b x e => @Ev.out (hideO O H ι 0) _ _ hev b x (nohide e)) hrest
  ·obtain ⟨B, hB, hr⟩ := hn
   have hlt := (List.getElem?_eq_some_iff.1 hB).1
   exact ⟨⟨B, (look id hlt).trans hB, hr⟩, fun b wm e => ⟨wm, (nlt id hlt).trans e⟩⟩
  ·obtain ⟨k1, k2⟩ := @Ev.fix (hideO O H ι 0) _ _ hev b lim (p0.fix b lim hF)
   refine ⟨?_, k2⟩
   obtain ⟨C, t, f, a, hl, r, ro⟩ := k1
   refine ⟨C, t, f, a, hl, fun id wm e => ?_, fun x e => ro x (nohide e)⟩
   have e1 : ι2 id = some (b, wm) := e
   rcases Nat.lt_trichotomy id H.length with hlt | he | hgt
   ·rw [nlt id hlt] at e1
    obtain ⟨l, hl1, hl2⟩ := ro _ (spec1 e1)
    have key : (∃ g, H[id]? = some (.row g)) ∧ l = wm := by
     split at hl1
     ·rename_i g hg; cases hl1; exact ⟨⟨g, hg⟩, rfl⟩
     ·cases hl1
    obtain ⟨⟨g, hg⟩, rfl⟩ := key
    exact ⟨⟨g, (look id hlt).trans hg⟩, hl2⟩
   ·rw [he, nat0] at e1
    obtain ⟨⟨g, hg⟩, _⟩ := r 0 wm e1
    have hg' : ([Blk.map sh es])[0]? = some (.row g) := hg
    cases hg'
   ·rw [ngt id hgt] at e1
    cases e1
  ·have hlt := (List.getElem?_eq_some_iff.1 hg).1
   exact ⟨g0, (look id hlt).trans hg, Nat.le_refl _, fun _ => ⟨nlt id hlt, fun b wm C t hi hC => ⟨C, t, (hsame hi).trans hC, rfl⟩⟩⟩
  ·have hlt := (List.getElem?_eq_some_iff.1 hg).1
   exact ⟨_, g0, (look id hlt).trans hg, rfl, Nat.le_refl _, fun _ => ⟨⟨c0, rfl⟩, nlt id hlt, fun b wm C t hi hC => ⟨C, t, (hsame hi).trans hC, rfl⟩⟩⟩
 refine ⟨ι2, ?_, ?_, hev', fun id hn hnone => ?_⟩
 ·cases e with
  | returned c =>
   have hend' : @VRel (hideO O H ι 0) ⟨[.map sh es], ι', w'⟩ (.mp 0) c := hend
   simp only [VRel] at hend'
   obtain ⟨b, wm, hi, _, hc⟩ := hend'
   show @VRel O ⟨H ++ [.map sh es], ι2, w'⟩ (.mp H.length) c
   simp only [VRel]
   exact ⟨b, wm, nat0.trans hi, ⟨_, last, rfl⟩, hc⟩
  | panicked chain => exact hend.elim
  | outgrown => exact hend.elim
 ·refine @Rel.mk O _ (fun id b wm e => ?_) (fun i j b wm wm' ei ej => ?_) (fun b x e => ?_)
  ·have e1 : ι2 id = some (b, wm) := e
   rcases Nat.lt_trichotomy id H.length with hlt | he | hgt
   ·rw [nlt id hlt] at e1
    obtain ⟨B, hB, hr⟩ := hR1.blk id b wm e1
    exact ⟨B, (look id hlt).trans hB, hr.ev hev' (hsame e1)⟩
   ·rw [he, nat0] at e1
    obtain ⟨B, hB, hr⟩ := @Rel.blk (hideO O H ι 0) _ hR1' 0 b wm e1
    have hB' : ([Blk.map sh es])[0]? = some B := hB
    cases hB'
    exact ⟨_, by rw [he]; exact last, map_moved hr hes rfl⟩
   ·rw [ngt id hgt] at e1
    cases e1
  ·have ei1 : ι2 i = some (b, wm) := ei
   have ej1 : ι2 j = some (b, wm') := ej
   rcases Nat.lt_trichotomy i H.length with h1 | h1 | h1
   ·rw [nlt i h1] at ei1
    rcases Nat.lt_trichotomy j H.length with h2 | h2 | h2
    ·rw [nlt j h2] at ej1
     exact hR1.inj i j b wm wm' ei1 ej1
    ·rw [h2, nat0] at ej1
     exact absurd ej1 ((@Rel.out (hideO O H ι 0) _ hR1' b _ (spec1 ei1)).2 0 wm')
    ·rw [ngt j h2] at ej1; cases ej1
   ·rw [h1, nat0] at ei1
    rcases Nat.lt_trichotomy j H.length with h2 | h2 | h2
    ·rw [nlt j h2] at ej1
     exact absurd ei1 ((@Rel.out (hideO O H ι 0) _ hR1' b _ (spec1 ej1)).2 0 wm)
    ·rw [h1, h2]
    ·rw [ngt j h2] at ej1; cases ej1
   ·rw [ngt i h1] at ei1; cases ei1
  ·obtain ⟨k1, k2⟩ := @Rel.out (hideO O H ι 0) _ hR1' b x (nohide e)
   refine ⟨k1, fun id wm hi => ?_⟩
   have hi1 : ι2 id = some (b, wm) := hi
   rcases Nat.lt_trichotomy id H.length with h1 | h1 | h1
   ·rw [nlt id h1] at hi1
    exact (hR1.out b x e).2 id wm hi1
   ·rw [h1, nat0] at hi1
    exact k2 0 wm hi1
   ·rw [ngt id h1] at hi1; cases hi1
 ·obtain ⟨B, hB, _⟩ := hn
  have hlt := (List.getElem?_eq_some_iff.1 hB).1
  exact (nlt id hlt).trans hnone
theorem fn_ruleN {P : Program} {m : Bool} {f : FuncId} {fn : Func} {c : Code} {args : List AV} {sh : KeyShape} (Pr : List (Value × AV) → Prop) (hm : P.follows .mixedOrders = true) (hf : P.funcs[f]? = some fn) (hb : fn.body = some c) (hn : args.length ≤ fn.ntmps) (ha : AV.unders 0 args)
  (h : gCode P m fn.ntmps none c (initVars 0 args) .nil 0 [] noLo fun x e _ => (x = .ret ∨ x = .normal) ∧ e.defs = [] ∧ ∃ id es, resT P (get e.t) e.vars fn.results.toList = some [.mp id] ∧ get e.t id = some (.map sh es) ∧ (∀ p ∈ es, ∃ v, p.2 = .lit v) ∧ Pr es) :
  ∃ es, Pr es ∧ ∀ H, ACall P f args H (.ret (.mp H.length)) (H ++ [.map sh es]) := by
 obtain ⟨x, e, lo, H', hH', hk', hrun, hx, hd, id, es, hres, hg, hes, hP⟩ := gCode_spec hm c _ _ _ _ _ _ h [] [] HT.nil (Keep.refl _ _)
 have hcr : ACall P f args [] (.ret (.mp id)) H' := by
  rw [hd] at hrun
  exact ACall.intro_marks hf hb hn hrun hx List.nodup_nil (resT_sound hH' hres)
 have hB := hH'.blk _ _ hg
 refine ⟨es, hP, fun H => ACall.frame_map ?_ ha hes H⟩
 intro O ι w cs hR hargs
 refine (hcr O ι w cs hR hargs).mono ?_
 rintro e w' ⟨ι', hend, hR', hev, hnon⟩
 cases e with
 | panicked chain => exact hend.elim
 | outgrown => exact hend.elim
 | returned c =>
  have hend' : VRel ⟨H', ι', w'⟩ (.mp id) c := hend
  simp only [VRel] at hend'
  obtain ⟨b, wm, hi, _, hc⟩ := hend'
  obtain ⟨ι2, hι2⟩ : ∃ ι2 : Nat → Option (Nat × Nat), ι2 = fun j => if j = 0 then ι' id else none := ⟨_, rfl⟩
  have e0 : ι2 0 = ι' id := by rw [hι2]; rfl
  have es' : ∀ {j : Nat} {p : Nat × Nat}, ι2 j = some p → j = 0 ∧ ι' id = some p := fun {j p} e => by
   by_cases hj : j = 0
   ·subst hj
    exact ⟨rfl, e0 ▸ e⟩
   ·rw [hι2] at e
    simp [hj] at e
  refine ⟨ι2, ?_, ⟨fun j b' wm' e => ?_, fun i j b' wm1 wm2 ei ej => ?_, fun b' x' e => ?_⟩, ⟨fun j hn => ?_, fun b' lim hF => ?_, fun j g0 hg0 => ?_, fun j g0 c0 hg0 => ?_, hev.out, hev.rest⟩, fun j hn => ?_⟩
  ·show VRel ⟨[.map sh es], ι2, w'⟩ (.mp 0) c
   simp only [VRel]
   exact ⟨b, wm, e0.trans hi, ⟨_, rfl, rfl⟩, hc⟩
  ·obtain ⟨hj, e1⟩ := es' e
   subst hj
   obtain ⟨B, hB2, hr⟩ := hR'.blk id b' wm' e1
   have hB3 : H'[id]? = some B := hB2
   rw [hB] at hB3; cases hB3
   exact ⟨_, rfl, map_moved hr hes rfl⟩
  ·rw [(es' ei).1, (es' ej).1]
  ·obtain ⟨k1, k2⟩ := hR'.out b' x' e
   exact ⟨k1, fun j wm1 e1 => k2 id wm1 (es' e1).2⟩
  ·obtain ⟨B, hB2, _⟩ := hn
   have hB3 : ([] : List Blk)[j]? = some B := hB2
   simp at hB3
  ·obtain ⟨⟨C, t, f, a, hl, r, ro⟩, k2⟩ := hev.fix b' lim hF
   refine ⟨⟨C, t, f, a, hl, fun j wm1 e1 => ?_, ro⟩, k2⟩
   obtain ⟨⟨g, hg1⟩, _⟩ := r id wm1 (es' e1).2
   have hg2 : H'[id]? = some (.row g) := hg1
   rw [hB] at hg2; cases hg2
  ·have hB3 : ([] : List Blk)[j]? = some (.row g0) := hg0
   simp at hB3
  ·have hB3 : ([] : List Blk)[j]? = some (.mrow g0 c0) := hg0
   simp at hB3
  ·obtain ⟨B, hB2, _⟩ := hn
   have hB3 : ([] : List Blk)[j]? = some B := hB2
   simp at hB3
theorem CallG.map {P : Program} {f : FuncId} {args : List AV} {sh : KeyShape} {es : List (Value × AV)} {t : Trie Blk} {n : Nat} {K Kp : AV → Trie Blk → Nat → Nat → Prop} (h : ∀ H, ACall P f args H (.ret (.mp H.length)) (H ++ [.map sh es]))
  (k : K (.mp n) (set t n (.map sh es)) (n + 1) noLo) : CallG P f args t n K Kp :=
 .ret fun H hH => by
  have hl := hH.len
  have hc := h H
  rw [hl] at hc
  exact ⟨.mp n, _, n + 1, noLo, H ++ [.map sh es], hH.push _, hc, Keep.append _ _ _, k⟩
end Go.Vm
