/-
  Searches by levels, and Join of the specification, for books and lists as told at each, in every heap. Conditions: at each theorem.
-/
import Derived.Test.YtdhdaadoehbopaaGreatDoorCo
import Derived.Test.YtdhdaadoehbopaaGreatDoorCf
import Derived.Test.YtdhdaadoehbopaaGreatDoorCs
import Derived.Test.YtdhdaadoehbopaaGreatDoorCp
import Derived.Test.YtdhdaadoehbopaaGreatDoorCc
import Derived.Test.YtdhdaadoehbopaaGreatDoorCa
import Derived.Test.YtdhdaadoehbopaaGreatDoorCd
import Derived.Test.YtdhdaadoehbopaaGreatDoorVc

namespace Go.Vm
section
variable {K : Type} {next : K → Nat → K} {done : K → Prop} {start : K} {c : Nat}
theorem passesL {q : List (K × List Nat)} {met : List K} {proc : K → Prop} (h : InvO next done start c q met proc) : ∀ (t u : List Nat), OkL c (u ++ t) → runB next start u ∈ met →
  proc (runB next start (u ++ t)) ∨ (∃ p ∈ q, p.1 = runB next start (u ++ t) ∧ LE p.2 (u ++ t)) ∨ ∃ p ∈ q, p.2.length < (u ++ t).length
 | [], u, ho, hm => by
  rw [List.append_nil] at ho ⊢
  rcases h.split _ hm with h1 | ⟨m, h1⟩
  ·exact .inl h1
  ·exact .inr (.inl ⟨_, h1, rfl, (h.least _ h1).2.2 u ho rfl⟩)
 | d :: t, u, ho, hm => by
  rcases h.split _ hm with h1 | ⟨m, h1⟩
  ·have e : u ++ d :: t = (u ++ [d]) ++ t := by simp
   have hd : d < c := ho d (by simp)
   rw [e] at ho ⊢
   exact passesL h t (u ++ [d]) ho (by rw [runB_snoc]; exact h.cl _ h1 d hd)
  ·have hu : OkL c u := fun y hy => ho y (by simp [hy])
   refine .inr (.inr ⟨_, h1, ?_⟩)
   have h2 : LE m u := (h.least _ h1).2.2 u hu rfl
   show m.length < _
   rw [List.length_append, List.length_cons]
   rcases h2 with h2 | h2
   ·rcases h2 with h2 | ⟨h2, _⟩ <;> omega
   ·rw [h2]; omega
theorem InvO.level {q : List (K × List Nat)} {met : List K} {proc : K → Prop} (h : InvO next done start c q met proc) {n : Nat} (hn : ∀ p ∈ q, p.2.length = n) {q1 q2 : List (K × List Nat)} {x : K} {l : List Nat} (hq : q = q1 ++ (x, l) :: q2) (h1 : ∀ p ∈ q1, ¬ done p.1) (hx : done x) :
  Found next done start c (some l) := by
 have hxq : (x, l) ∈ q := by rw [hq]; simp
 obtain ⟨k1, k2, k3⟩ := h.least _ hxq
 refine ⟨fun l' e => ?_, (fun e => by cases e)⟩
 cases e
 refine ⟨k2, by rw [k1]; exact hx, fun u hu hdu => ?_⟩
 rcases passesL h u [] hu h.s with h4 | ⟨p, hp, e, h4⟩ | ⟨p, hp, h4⟩
 ·exact absurd hdu (h.nd _ h4)
 ·have e : p.1 = runB next start u := e
  have h4 : LE p.2 u := h4
  have hs := h.sorted
  rw [hq] at hs hp
  have hs := (List.pairwise_append.1 hs).2.1
  rcases List.mem_append.1 hp with hp | hp
  ·exact absurd (by rw [e]; exact hdu) (h1 p hp)
  ·rcases List.mem_cons.1 hp with rfl | hp
   ·exact h4
   ·exact LE.trans (.inl ((List.pairwise_cons.1 hs).1 p hp)) h4
 ·have h4 : p.2.length < u.length := h4
  have e1 := hn p hp
  have e2 : l.length = n := hn _ hxq
  exact .inl (.inl (by omega))
variable [DecidableEq K]
def lvStep (s : List K × List (K × List Nat)) (m : K × List Nat) : List K × List (K × List Nat) := if m.1 ∈ s.1 then s else (s.1 ++ [m.1], s.2 ++ [m])
def moreX (next : K → Nat → K) (p : K × List Nat) (r : Nat) : List (K × List Nat) := (List.range r).map fun d => (next p.1 d, p.2 ++ [d])
def moreK (next : K → Nat → K) (c : Nat) (q : List (K × List Nat)) : List (K × List Nat) := q.flatMap fun p => moreX next p c
theorem InvI.goes {x : K} {l : List Nat} {q nx : List (K × List Nat)} {met : List K} {proc : K → Prop} (h : InvI next done start c x l 0 (q ++ nx) met proc) : ∀ r, r ≤ c →
  InvI next done start c x l r (q ++ ((moreX next (x, l) r).foldl lvStep (met, nx)).2) ((moreX next (x, l) r).foldl lvStep (met, nx)).1 proc
 | 0, _ => h
 | r + 1, hr => by
  have ih := InvI.goes h r (by omega)
  have e : moreX next (x, l) (r + 1) = moreX next (x, l) r ++ [(next x r, l ++ [r])] := by
   unfold moreX
   rw [List.range_succ, List.map_append]
   rfl
  rw [e, List.foldl_append]
  show InvI next done start c x l (r + 1) (q ++ (lvStep _ (next x r, l ++ [r])).2) (lvStep _ (next x r, l ++ [r])).1 proc
  generalize (moreX next (x, l) r).foldl lvStep (met, nx) = s at ih
  unfold lvStep
  by_cases hm : next x r ∈ s.1
  ·rw [if_pos hm]
   exact ih.old hm
  ·rw [if_neg hm]
   have := ih.new (by omega) hm
   rw [List.append_assoc] at this
   exact this
theorem InvO.goes : ∀ {q nx : List (K × List Nat)} {met : List K} {proc : K → Prop}, InvO next done start c (q ++ nx) met proc → (∀ p ∈ q, ¬ done p.1) →
  ∃ proc', InvO next done start c ((moreK next c q).foldl lvStep (met, nx)).2 ((moreK next c q).foldl lvStep (met, nx)).1 proc'
 | [], nx, met, proc, h, _ => ⟨proc, h⟩
 | (x, l) :: q, nx, met, proc, h, hd => by
  have h1 := (InvO.take h (hd (x, l) (by simp))).goes c (Nat.le_refl _)
  have h2 := h1.over
  have e : moreK next c ((x, l) :: q) = moreX next (x, l) c ++ moreK next c q := rfl
  rw [e, List.foldl_append]
  generalize (moreX next (x, l) c).foldl lvStep (met, nx) = s at h2
  exact InvO.goes h2 fun p hp => hd p (by simp [hp])
end
def longL (c : Nat) (lev : List (List Nat)) : List (List Nat) := lev.flatMap fun l => (List.range c).map fun d => l ++ [d]
def stpK (key : List Nat → Nat) (s : List Nat × List (List Nat)) (m : List Nat) : List Nat × List (List Nat) := if key m ∈ s.1 then s else (s.1 ++ [key m], s.2 ++ [m])
def levK (key : List Nat → Nat) (c : Nat) (ks : List Nat) (lev : List (List Nat)) : List Nat × List (List Nat) := (longL c lev).foldl (stpK key) (ks, [])
section
variable {K : Type} (next : K → Nat → K) (done : K → Prop) (start : K) (c : Nat) (key : List Nat → Nat)
def nxO : Option K → Nat → Option K
 | none, d => some (next start d)
 | some y, d => some (next y d)
def dnO : Option K → Prop
 | none => done start
 | some y => done y
theorem runO_snoc (l : List Nat) (d : Nat) : runB (nxO next start) none (l ++ [d]) = some (runB next start (l ++ [d])) := by
 have key : ∀ (l : List Nat) (y : K), runB (nxO next start) (some y) l = some (runB next y l) := fun l => by
  induction l with
  | nil => intro y; rfl
  | cons a l ih => intro y; exact ih (next y a)
 cases l with
 | nil => exact key [] (next start d)
 | cons a l => exact key (l ++ [d]) (next start a)
theorem runO_done (l : List Nat) : dnO done start (runB (nxO next start) none l) ↔ done (runB next start l) := by
 rcases List.eq_nil_or_concat l with rfl | ⟨l', d, rfl⟩
 ·exact Iff.rfl
 ·rw [List.concat_eq_append, runO_snoc]; exact Iff.rfl
structure InvW (ks : List Nat) (lev : List (List Nat)) (n : Nat) : Prop where
 inv : ∃ met proc, InvO (nxO next start) (dnO done start) none c (lev.map fun l => (runB (nxO next start) none l, l)) met proc ∧ ∃ ls : List (List Nat), (∀ l ∈ ls, OkL c l ∧ ∃ l' d, l = l' ++ [d]) ∧ met = none :: ls.map (fun l => runB (nxO next start) none l) ∧ ks = ls.map key
 len : ∀ l ∈ lev, l.length = n ∧ OkL c l
 nodup : ks.Nodup
 few : lev.length ≤ ks.length + 1
 long : n ≤ ks.length ∨ lev = []
 keys : ∀ x ∈ ks, ∃ l, OkL c l ∧ x = key l
variable {next done start c key}
theorem InvW.begin : InvW next done start c key [] [[]] 0 :=
 ⟨⟨[none], fun _ => False, InvO.begin, [], (by simp), rfl, rfl⟩, (fun l hl => by rw [List.mem_singleton] at hl; subst hl; exact ⟨rfl, fun _ h => by cases h⟩), List.nodup_nil, Nat.le_refl _, .inl (Nat.zero_le _), (by simp)⟩
theorem found_O {o : Option (List Nat)} (h : Found (nxO next start) (dnO done start) none c o) : Found next done start c o :=
 ⟨fun l e => by
  obtain ⟨h1, h2, h3⟩ := h.yes l e
  exact ⟨h1, (runO_done next done start l).1 h2, fun u hu hd => h3 u hu ((runO_done next done start u).2 hd)⟩, fun e u hu hd => h.no e u hu ((runO_done next done start u).2 hd)⟩
theorem InvW.found {ks : List Nat} {lev l1 l2 : List (List Nat)} {n : Nat} {l : List Nat} (h : InvW next done start c key ks lev n) (hl : lev = l1 ++ l :: l2) (h1 : ∀ m ∈ l1, ¬ done (runB next start m)) (hd : done (runB next start l)) : Found next done start c (some l) := by
 obtain ⟨met, proc, hI, _⟩ := h.inv
 refine found_O (hI.level (n := n) (fun p hp => ?_) (q1 := l1.map fun l => (runB (nxO next start) none l, l)) (q2 := l2.map fun l => (runB (nxO next start) none l, l)) (by rw [hl, List.map_append]; rfl) (fun p hp => ?_) ((runO_done next done start l).2 hd))
 ·obtain ⟨m, hm, rfl⟩ := List.mem_map.1 hp
  exact (h.len m hm).1
 ·obtain ⟨m, hm, rfl⟩ := List.mem_map.1 hp
  exact fun h' => h1 m hm ((runO_done next done start m).1 h')
theorem InvW.nothing {ks : List Nat} {n : Nat} (h : InvW next done start c key ks [] n) : Found next done start c none := by
 obtain ⟨met, proc, hI, _⟩ := h.inv
 exact found_O hI.nothing
theorem foldK (hk : ∀ l m, OkL c l → OkL c m → l ≠ [] → m ≠ [] → (key l = key m ↔ runB next start l = runB next start m)) [DecidableEq K] : ∀ (w : List (List Nat)) (ls nx : List (List Nat)), (∀ l ∈ w, OkL c l ∧ ∃ l' d, l = l' ++ [d]) → (∀ l ∈ ls, OkL c l ∧ ∃ l' d, l = l' ++ [d]) →
  ∃ ls' : List (List Nat), (∀ l ∈ ls', OkL c l ∧ ∃ l' d, l = l' ++ [d]) ∧ w.foldl (stpK key) (ls.map key, nx) = (ls'.map key, (w.foldl (stpK key) (ls.map key, nx)).2) ∧
   (w.map fun l => (runB (nxO next start) none l, l)).foldl lvStep (none :: ls.map (fun l => runB (nxO next start) none l), nx.map fun l => (runB (nxO next start) none l, l)) =
    (none :: ls'.map (fun l => runB (nxO next start) none l), (w.foldl (stpK key) (ls.map key, nx)).2.map fun l => (runB (nxO next start) none l, l))
 | [], ls, nx, _, h => ⟨ls, h, rfl, rfl⟩
 | m :: w, ls, nx, hw, h => by
  obtain ⟨ho, m', d, e⟩ := hw m (by simp)
  have hne : ∀ {l : List Nat}, (∃ l' d, l = l' ++ [d]) → l ≠ [] := fun {l} ⟨l', d, h⟩ h' => by rw [h'] at h; simp at h
  have mem : key m ∈ ls.map key ↔ runB (nxO next start) none m ∈ none :: ls.map (fun l => runB (nxO next start) none l) := by
   rw [List.mem_map, List.mem_cons, List.mem_map]
   have en : runB (nxO next start) none m ≠ none := by rw [e, runO_snoc]; simp
   constructor
   ·rintro ⟨l, hl, hkl⟩
    obtain ⟨hlo, l', d', el⟩ := h l hl
    refine .inr ⟨l, hl, ?_⟩
    rw [el, e, runO_snoc, runO_snoc, ← el, ← e, (hk l m hlo ho (hne ⟨l', d', el⟩) (hne ⟨m', d, e⟩)).1 hkl]
   ·rintro (h' | ⟨l, hl, hkl⟩)
    ·exact absurd h' en
    ·obtain ⟨hlo, l', d', el⟩ := h l hl
     refine ⟨l, hl, (hk l m hlo ho (hne ⟨l', d', el⟩) (hne ⟨m', d, e⟩)).2 ?_⟩
     rw [el, e, runO_snoc, runO_snoc] at hkl
     rw [el, e]
     exact Option.some.inj hkl
  rw [List.map_cons, List.foldl_cons, List.foldl_cons]
  by_cases hm : key m ∈ ls.map key
  ·have e1 : stpK key (ls.map key, nx) m = (ls.map key, nx) := if_pos hm
   have e2 : lvStep (none :: ls.map (fun l => runB (nxO next start) none l), nx.map fun l => (runB (nxO next start) none l, l)) (runB (nxO next start) none m, m) = (none :: ls.map (fun l => runB (nxO next start) none l), nx.map fun l => (runB (nxO next start) none l, l)) := if_pos (mem.1 hm)
   rw [e1, e2]
   exact foldK hk w ls nx (fun l hl => hw l (by simp [hl])) h
  ·have e1 : stpK key (ls.map key, nx) m = ((ls ++ [m]).map key, nx ++ [m]) := by
    rw [List.map_append]
    exact if_neg hm
   have e2 : lvStep (none :: ls.map (fun l => runB (nxO next start) none l), nx.map fun l => (runB (nxO next start) none l, l)) (runB (nxO next start) none m, m) = (none :: (ls ++ [m]).map (fun l => runB (nxO next start) none l), (nx ++ [m]).map fun l => (runB (nxO next start) none l, l)) := by
    rw [List.map_append, List.map_append]
    exact if_neg fun h' => hm (mem.2 h')
   rw [e1, e2]
   refine foldK hk w (ls ++ [m]) (nx ++ [m]) (fun l hl => hw l (by simp [hl])) fun l hl => ?_
   rcases List.mem_append.1 hl with hl | hl
   ·exact h l hl
   ·rw [List.mem_singleton] at hl
    subst hl
    exact ⟨ho, m', d, e⟩
theorem longL_mem {lev : List (List Nat)} {m : List Nat} : m ∈ longL c lev ↔ ∃ l ∈ lev, ∃ d, d < c ∧ m = l ++ [d] := by
 unfold longL
 rw [List.mem_flatMap]
 constructor
 ·rintro ⟨l, hl, hm⟩
  obtain ⟨d, hd, rfl⟩ := List.mem_map.1 hm
  exact ⟨l, hl, d, List.mem_range.1 hd, rfl⟩
 ·rintro ⟨l, hl, d, hd, rfl⟩
  exact ⟨l, hl, List.mem_map.2 ⟨d, List.mem_range.2 hd, rfl⟩⟩
structure Adds (key : List Nat → Nat) (w : List (List Nat)) (ks : List Nat) (nx : List (List Nat)) (s : List Nat × List (List Nat)) : Prop where
 sub : ∀ m ∈ s.2, m ∈ nx ∨ m ∈ w
 nodup : ks.Nodup → s.1.Nodup
 keys : ∀ x ∈ s.1, x ∈ ks ∨ ∃ m ∈ w, x = key m
 many : s.1.length + nx.length = ks.length + s.2.length
theorem adds : ∀ (w : List (List Nat)) (ks : List Nat) (nx : List (List Nat)), Adds key w ks nx (w.foldl (stpK key) (ks, nx))
 | [], ks, nx => ⟨fun m h => .inl h, fun h => h, fun x h => .inl h, rfl⟩
 | m :: w, ks, nx => by
  rw [List.foldl_cons]
  by_cases hm : key m ∈ ks
  ·have e1 : stpK key (ks, nx) m = (ks, nx) := if_pos hm
   rw [e1]
   obtain ⟨a, b, d, e⟩ := adds w ks nx
   exact ⟨fun x hx => (a x hx).imp id fun h => by simp [h], b, fun x hx => (d x hx).imp id fun ⟨y, h1, h2⟩ => ⟨y, by simp [h1], h2⟩, e⟩
  ·have e1 : stpK key (ks, nx) m = (ks ++ [key m], nx ++ [m]) := if_neg hm
   rw [e1]
   obtain ⟨a, b, d, e⟩ := adds w (ks ++ [key m]) (nx ++ [m])
   refine ⟨fun x hx => ?_, fun h => b ?_, fun x hx => ?_, ?_⟩
   ·rcases a x hx with h | h
    ·rcases List.mem_append.1 h with h | h
     ·exact .inl h
     ·rw [List.mem_singleton] at h; subst h; exact .inr (by simp)
    ·exact .inr (by simp [h])
   ·refine List.nodup_append.2 ⟨h, by simp, fun a ha b hb hab => ?_⟩
    rw [List.mem_singleton] at hb
    subst hb hab
    exact hm ha
   ·rcases d x hx with h | ⟨y, h1, h2⟩
    ·rcases List.mem_append.1 h with h | h
     ·exact .inl h
     ·rw [List.mem_singleton] at h; exact .inr ⟨m, by simp, h⟩
    ·exact .inr ⟨y, by simp [h1], h2⟩
   ·rw [List.length_append, List.length_append] at e
    simp only [List.length_singleton] at e
    omega
theorem InvW.step (hk : ∀ l m, OkL c l → OkL c m → l ≠ [] → m ≠ [] → (key l = key m ↔ runB next start l = runB next start m)) {ks : List Nat} {lev : List (List Nat)} {n : Nat} (h : InvW next done start c key ks lev n) (hd : ∀ m ∈ lev, ¬ done (runB next start m)) :
  InvW next done start c key (levK key c ks lev).1 (levK key c ks lev).2 (n + 1) ∧ (levK key c ks lev).1.length = ks.length + (levK key c ks lev).2.length := by
 classical
 obtain ⟨met, proc, hI, ls, hls, rfl, rfl⟩ := h.inv
 have hI' : InvO (nxO next start) (dnO done start) none c ((lev.map fun l => (runB (nxO next start) none l, l)) ++ []) (none :: ls.map fun l => runB (nxO next start) none l) proc := by rw [List.append_nil]; exact hI
 obtain ⟨proc', hG⟩ := hI'.goes fun p hp => by
  obtain ⟨m, hm, rfl⟩ := List.mem_map.1 hp
  exact fun h' => hd m hm ((runO_done next done start m).1 h')
 have em : moreK (nxO next start) c (lev.map fun l => (runB (nxO next start) none l, l)) = (longL c lev).map fun l => (runB (nxO next start) none l, l) := by
  unfold moreK longL moreX
  rw [List.flatMap_map, List.map_flatMap]
  congr 1
  funext l
  rw [List.map_map]
  refine List.map_congr_left fun d _ => ?_
  show (nxO next start (runB (nxO next start) none l) d, l ++ [d]) = (runB (nxO next start) none (l ++ [d]), l ++ [d])
  rw [runB_snoc]
 have hw : ∀ l ∈ longL c lev, OkL c l ∧ ∃ l' d, l = l' ++ [d] := fun l hl => by
  obtain ⟨l', h1, d, h2, rfl⟩ := longL_mem.1 hl
  refine ⟨fun x hx => ?_, l', d, rfl⟩
  rcases List.mem_append.1 hx with hx | hx
  ·exact (h.len l' h1).2 x hx
  ·rw [List.mem_singleton] at hx; omega
 obtain ⟨ls', g1, g2, g3⟩ := foldK (start := start) hk (longL c lev) ls [] hw hls
 have g3 : ((longL c lev).map fun l => (runB (nxO next start) none l, l)).foldl lvStep (none :: ls.map (fun l => runB (nxO next start) none l), []) = _ := g3
 rw [em, g3] at hG
 obtain ⟨a1, a2, a3, a4⟩ := adds (key := key) (longL c lev) (ls.map key) []
 have e1 : (levK key c (ls.map key) lev).1 = ls'.map key := congrArg Prod.fst g2
 have a4 : (levK key c (ls.map key) lev).1.length + 0 = (ls.map key).length + (levK key c (ls.map key) lev).2.length := a4
 refine ⟨⟨⟨_, proc', hG, ls', g1, rfl, e1⟩, fun l hl => ?_, a2 h.nodup, by omega, ?_, fun x hx => ?_⟩, by omega⟩
 ·rcases a1 l hl with h' | h'
  ·cases h'
  ·obtain ⟨l', h1, d, h2, rfl⟩ := longL_mem.1 h'
   exact ⟨by rw [List.length_append, (h.len l' h1).1]; rfl, (hw _ h').1⟩
 ·by_cases hz : (levK key c (ls.map key) lev).2 = []
  ·exact .inr hz
  ·left
   have := List.length_pos_iff.2 hz
   rcases h.long with h' | h'
   ·omega
   ·subst h'
    exact absurd rfl hz
 ·rcases a3 x hx with h' | ⟨m, h1, h2⟩
  ·exact h.keys x h'
  ·exact ⟨m, (hw m h1).1, h2⟩
end
end Go.Vm

namespace Go.Vm
open Go.Proofs
def dig4 (ds : List Nat) : Nat := ds.foldl (fun n d => n * 4 + d) 0
theorem dig4_snoc (ds : List Nat) (d : Nat) : dig4 (ds ++ [d]) = dig4 ds * 4 + d := by unfold dig4; rw [List.foldl_append]; rfl
theorem dig4_lt : ∀ (n : Nat) {ds : List Nat}, ds.length = n → (∀ d ∈ ds, d < 4) → dig4 ds < 4 ^ n
 | 0, ds, h, _ => by
  obtain rfl := List.length_eq_zero_iff.1 h
  exact Nat.zero_lt_one
 | n + 1, ds, h, hd => by
  rcases List.eq_nil_or_concat ds with rfl | ⟨l, d, rfl⟩
  ·simp at h
  ·rw [List.concat_eq_append] at *
   have hl : l.length = n := by simpa using h
   have h1 := dig4_lt n hl fun x hx => hd x (by simp [hx])
   have h2 := hd d (by simp)
   rw [dig4_snoc, Nat.pow_succ]
   omega
theorem dig4_inj : ∀ (n : Nat) {ds es : List Nat}, ds.length = n → es.length = n → (∀ d ∈ ds, d < 4) → (∀ d ∈ es, d < 4) → dig4 ds = dig4 es → ds = es
 | 0, ds, es, h, h', _, _, _ => by
  obtain rfl := List.length_eq_zero_iff.1 h
  obtain rfl := List.length_eq_zero_iff.1 h'
  rfl
 | n + 1, ds, es, h, h', hd, he, e => by
  rcases List.eq_nil_or_concat ds with rfl | ⟨l, d, rfl⟩
  ·simp at h
  ·rcases List.eq_nil_or_concat es with rfl | ⟨m, f, rfl⟩
   ·simp at h'
   ·rw [List.concat_eq_append, List.concat_eq_append] at *
    have hl : l.length = n := by simpa using h
    have hm : m.length = n := by simpa using h'
    have h1 := hd d (by simp)
    have h2 := he f (by simp)
    rw [dig4_snoc, dig4_snoc] at e
    have e1 : dig4 l = dig4 m := by omega
    have e2 : d = f := by omega
    rw [dig4_inj n hl hm (fun x hx => hd x (by simp [hx])) (fun x hx => he x (by simp [hx])) e1, e2]
def aftN (vs : List Vers) (n : Int) (l : List Nat) : Nat := after (vs.getD n.toNat []) 0 (cuesI l)
def plI (vs : List Vers) (n : Int) (l : List Nat) : List Int := plays (vs.getD n.toNat []) 0 (cuesI l)
def afL (vs : List Vers) (L : List Int) (l : List Nat) : List Nat := L.map fun n => aftN vs n l
def lAt (L : List Int) (i : Nat) : Int := L.getD i 0
def keyJ (vs : List Vers) (L : List Int) (l : List Nat) : Nat := dig4 (afL vs L l)
structure LeftOk (vs : List Vers) (L : List Int) : Prop where
 mem : ∀ n ∈ L, 0 ≤ n ∧ n < vs.length
 few : L.length ≤ 4
section
variable {vs : List Vers} {K : Nat} {L : List Int} (hv : ∀ v ∈ vs, VersOk v K) (hv0 : ∀ v ∈ vs, 0 < v.length) (hs : ∀ v ∈ vs, v.length ≤ 4) (hn : vs.length ≤ 4) (hL : LeftOk vs L)
theorem vget {n : Int} (h : 0 ≤ n ∧ n < vs.length) : vs.getD n.toNat [] ∈ vs := by
 have h1 : n.toNat < vs.length := by omega
 have : vs.getD n.toNat [] = vs[n.toNat] := by simp [List.getD, List.getElem?_eq_getElem h1]
 rw [this]
 exact List.getElem_mem h1
include hv hv0 hs hL in
theorem aft_lt {n : Int} (h : n ∈ L) {l : List Nat} (hl : OkL K l) : aftN vs n l < 4 := by
 have hm := vget (hL.mem n h)
 have := after_lt (hv _ hm) (cuesI_ok hl) (hv0 _ hm)
 have := hs _ hm
 unfold aftN
 omega
include hv hv0 hs hL in
theorem afL_lt {l : List Nat} (hl : OkL K l) : ∀ d ∈ afL vs L l, d < 4 := fun d hd => by
 obtain ⟨n, h1, rfl⟩ := List.mem_map.1 hd
 exact aft_lt hv hv0 hs hL h1 hl
theorem afL_length (l : List Nat) : (afL vs L l).length = L.length := List.length_map _
include hv hv0 hs hL in
theorem keyJ_lt {l : List Nat} (hl : OkL K l) : keyJ vs L l < 256 := by
 have h := dig4_lt L.length (afL_length l) (afL_lt hv hv0 hs hL hl)
 have h2 : 4 ^ L.length ≤ 4 ^ 4 := Nat.pow_le_pow_right (by omega) hL.few
 have h3 : 4 ^ 4 = 256 := rfl
 unfold keyJ
 omega
theorem map_eqL {α β : Type} {f g : α → β} : ∀ {l : List α}, l.map f = l.map g ↔ ∀ x ∈ l, f x = g x
 | [] => by simp
 | x :: l => by
  rw [List.map_cons, List.map_cons, List.cons.injEq, map_eqL (l := l)]
  simp
theorem lAt_mem {i : Nat} (h : i < L.length) : lAt L i ∈ L := by
 have : lAt L i = L[i] := by simp [lAt, List.getD, List.getElem?_eq_getElem h]
 rw [this]
 exact List.getElem_mem h
theorem mem_lAt {n : Int} (h : n ∈ L) : ∃ i, i < L.length ∧ lAt L i = n := by
 obtain ⟨i, hi, e⟩ := List.getElem_of_mem h
 exact ⟨i, hi, by simp [lAt, List.getD, List.getElem?_eq_getElem hi, e]⟩
theorem er_aft {n : Nat} (h : (n : Int) ∈ L) (l : List Nat) : erI vs L l n = (aftN vs (n : Int) l : Nat) := by
 unfold erI aftN
 rw [if_pos h, Int.toNat_natCast]
include hL hn in
theorem L_nat {n : Int} (h : n ∈ L) : ∃ m : Nat, n = (m : Int) ∧ m < 4 := by
 have := hL.mem n h
 exact ⟨n.toNat, by omega, by omega⟩
include hL hn in
theorem er_same {l m : List Nat} : (erI vs L l 0 = erI vs L m 0 ∧ erI vs L l 1 = erI vs L m 1 ∧ erI vs L l 2 = erI vs L m 2 ∧ erI vs L l 3 = erI vs L m 3) ↔ afL vs L l = afL vs L m := by
 unfold afL
 rw [map_eqL]
 constructor
 ·intro h n hmem
  obtain ⟨a, rfl, ha⟩ := L_nat hn hL hmem
  have : erI vs L l a = erI vs L m a := by
   rcases (show a = 0 ∨ a = 1 ∨ a = 2 ∨ a = 3 by omega) with rfl | rfl | rfl | rfl
   ·exact h.1
   ·exact h.2.1
   ·exact h.2.2.1
   ·exact h.2.2.2
  rw [er_aft hmem, er_aft hmem] at this
  omega
 ·intro h
  have key : ∀ a : Nat, erI vs L l a = erI vs L m a := fun a => by
   by_cases ha : (a : Int) ∈ L
   ·rw [er_aft ha, er_aft ha, h _ ha]
   ·unfold erI
    rw [if_neg ha, if_neg ha]
  exact ⟨key 0, key 1, key 2, key 3⟩
end
end Go.Vm

namespace Go.Vm
open Go.Proofs
def alS (vs : List Vers) (K : Nat) (p q : Sta) : Prop := ∀ l, OkL K l → trM (stS vs) (ouS vs) p l = trM (stS vs) (ouS vs) q l
theorem alS.refl {vs : List Vers} {K : Nat} (p : Sta) : alS vs K p p := fun _ _ => rfl
theorem alS.symm {vs : List Vers} {K : Nat} {p q : Sta} (h : alS vs K p q) : alS vs K q p := fun l hl => (h l hl).symm
theorem alS.trans {vs : List Vers} {K : Nat} {p q r : Sta} (h : alS vs K p q) (h' : alS vs K q r) : alS vs K p r := fun l hl => (h l hl).trans (h' l hl)
theorem alS_dT {vs : List Vers} {K a b s t : Nat} (ha : VersOk (vAt vs a) K) (hb : VersOk (vAt vs b) K) (hs : s < (vAt vs a).length) (ht : t < (vAt vs b).length) : alS vs K (a, s) (b, t) ↔ dT (vAt vs a) (vAt vs b) K s t = [] := by
 obtain ⟨h1, h2⟩ := dT_ok ha hb hs ht
 unfold alS
 simp only [trS_plays]
 constructor
 ·intro h
  apply Classical.byContradiction
  intro hne
  obtain ⟨k1, k2, _⟩ := h1 hne
  exact k2 (h _ k1)
 ·intro h u hu
  exact Classical.byContradiction fun hne => h2 h u hu hne
def nextJ (vs : List Vers) (p : Pos) (c : Nat) : Pos := ((nxI vs c 0 p.1.1, nxI vs c 1 p.1.2.1, nxI vs c 2 p.1.2.2.1, nxI vs c 3 p.1.2.2.2), (false, false, false, false, false, false))
def jRun (vs : List Vers) (L : List Int) (l : List Nat) : Pos := ((erI vs L l 0, erI vs L l 1, erI vs L l 2, erI vs L l 3), (false, false, false, false, false, false))
def pairJ (vs : List Vers) (K : Nat) (a b : Nat) (pa pb : Int) : Prop := 0 ≤ pa → 0 ≤ pb → alS vs K (a, pa.toNat) (b, pb.toNat)
def doneJ (vs : List Vers) (K : Nat) (p : Pos) : Prop :=
 pairJ vs K 1 0 p.1.2.1 p.1.1 ∧ pairJ vs K 2 0 p.1.2.2.1 p.1.1 ∧ pairJ vs K 2 1 p.1.2.2.1 p.1.2.1 ∧ pairJ vs K 3 0 p.1.2.2.2 p.1.1 ∧ pairJ vs K 3 1 p.1.2.2.2 p.1.2.1 ∧ pairJ vs K 3 2 p.1.2.2.2 p.1.2.2.1
theorem six {P : Nat → Nat → Prop} : (P 1 0 ∧ P 2 0 ∧ P 2 1 ∧ P 3 0 ∧ P 3 1 ∧ P 3 2) ↔ ∀ a b, a < 4 → b < a → P a b := by
 constructor
 ·rintro ⟨h1, h2, h3, h4, h5, h6⟩ a b ha hb
  have : a = 1 ∧ b = 0 ∨ a = 2 ∧ b = 0 ∨ a = 2 ∧ b = 1 ∨ a = 3 ∧ b = 0 ∨ a = 3 ∧ b = 1 ∨ a = 3 ∧ b = 2 := by omega
  rcases this with ⟨rfl, rfl⟩ | ⟨rfl, rfl⟩ | ⟨rfl, rfl⟩ | ⟨rfl, rfl⟩ | ⟨rfl, rfl⟩ | ⟨rfl, rfl⟩ <;> assumption
 ·intro h
  exact ⟨h 1 0 (by omega) (by omega), h 2 0 (by omega) (by omega), h 2 1 (by omega) (by omega), h 3 0 (by omega) (by omega), h 3 1 (by omega) (by omega), h 3 2 (by omega) (by omega)⟩
section
variable {vs : List Vers} {K : Nat} {L : List Int} (hv : ∀ v ∈ vs, VersOk v K) (hv0 : ∀ v ∈ vs, 0 < v.length) (hs : ∀ v ∈ vs, v.length ≤ 4) (hn : vs.length ≤ 4) (hL : LeftOk vs L)
theorem LeftOk.nat (hL : LeftOk vs L) : ∀ n : Nat, (n : Int) ∈ L → n < vs.length := fun n h => by have := hL.mem _ h; omega
theorem vAt_in {a : Nat} (h : a < vs.length) : vAt vs a ∈ vs := by
 have e : vAt vs a = vs[a] := by simp [vAt, List.getD, List.getElem?_eq_getElem h]
 rw [e]
 exact List.getElem_mem h
include hv hv0 hL in
theorem jRun_next {c : Nat} {l : List Nat} (hl : OkL K l) (hc : c < K) : nextJ vs (jRun vs L l) c = jRun vs L (l ++ [c]) := by
 unfold jRun nextJ
 simp only [nx_run hv hv0 hL.nat _ hl hc]
include hv hv0 hL in
theorem jRun_pos (l : List Nat) : OkL K l → runB (nextJ vs) (jRun vs L []) l = jRun vs L l := by
 have key : ∀ m : List Nat, OkL K m.reverse → runB (nextJ vs) (jRun vs L []) m.reverse = jRun vs L m.reverse := fun m => by
  induction m with
  | nil => intro _; rfl
  | cons c m ih =>
   intro ho
   rw [List.reverse_cons] at ho ⊢
   have hm : OkL K m.reverse := fun x hx => ho x (by simp only [List.mem_append]; exact .inl hx)
   have hc : c < K := ho c (by simp)
   rw [runB_snoc, ih hm, jRun_next hv hv0 hL hm hc]
 have := key l.reverse
 rwa [List.reverse_reverse] at this
include hv hv0 hs hn hL in
theorem keyJ_iff {l m : List Nat} (hl : OkL K l) (hm : OkL K m) : keyJ vs L l = keyJ vs L m ↔ jRun vs L l = jRun vs L m := by
 have h1 : jRun vs L l = jRun vs L m ↔ afL vs L l = afL vs L m := by
  rw [← er_same hn hL]
  unfold jRun
  simp only [Prod.mk.injEq, and_true]
 rw [h1]
 exact ⟨fun h => dig4_inj L.length (afL_length l) (afL_length m) (afL_lt hv hv0 hs hL hl) (afL_lt hv hv0 hs hL hm) h, fun h => by unfold keyJ; rw [h]⟩
def specS (vs : List Vers) (K : Nat) (L : List Int) (l : List Nat) : Prop := ∀ i, i < L.length → ∀ k, k < i → ¬ (plI vs (lAt L i) l = plI vs (lAt L k) l ∧ dT (vAt vs (lAt L i).toNat) (vAt vs (lAt L k).toNat) K 0 0 ≠ [])
def specJ (vs : List Vers) (K : Nat) (L : List Int) (l : List Nat) : Prop := ∀ i, i < L.length → 1 ≤ i → dT (vAt vs (lAt L 0).toNat) (vAt vs (lAt L i).toNat) K (aftN vs (lAt L 0) l) (aftN vs (lAt L i) l) = []
include hv hv0 hn hL in
theorem doneJ_iff {l : List Nat} (hl : OkL K l) : doneJ vs K (jRun vs L l) ↔ specJ vs K L l := by
 have e1 : doneJ vs K (jRun vs L l) ↔ ∀ a b, a < 4 → b < a → pairJ vs K a b (erI vs L l a) (erI vs L l b) := six (P := fun a b => pairJ vs K a b (erI vs L l a) (erI vs L l b))
 have e2 : ∀ a b : Nat, pairJ vs K a b (erI vs L l a) (erI vs L l b) ↔ ((a : Int) ∈ L → (b : Int) ∈ L → alS vs K (a, aftN vs a l) (b, aftN vs b l)) := fun a b => by
  unfold pairJ
  rw [er_pos, er_pos]
  constructor
  ·intro h ha hb
   have := h ha hb
   rw [er_aft ha, er_aft hb, Int.toNat_natCast, Int.toNat_natCast] at this
   exact this
  ·intro h ha hb
   rw [er_aft ha, er_aft hb, Int.toNat_natCast, Int.toNat_natCast]
   exact h ha hb
 rw [e1]
 have lt : ∀ {a : Nat}, (a : Int) ∈ L → aftN vs a l < (vAt vs a).length := fun {a} ha => by
  have hm := vAt_in (hL.nat a ha)
  have := after_lt (hv _ hm) (cuesI_ok hl) (hv0 _ hm)
  unfold aftN
  rw [Int.toNat_natCast]
  exact this
 have al : ∀ {a b : Nat}, (a : Int) ∈ L → (b : Int) ∈ L → (alS vs K (a, aftN vs a l) (b, aftN vs b l) ↔ dT (vAt vs a) (vAt vs b) K (aftN vs a l) (aftN vs b l) = []) := fun {a b} ha hb =>
  alS_dT (hv _ (vAt_in (hL.nat a ha))) (hv _ (vAt_in (hL.nat b hb))) (lt ha) (lt hb)
 constructor
 ·intro h i hi h1
  obtain ⟨a, ea, ha4⟩ := L_nat hn hL (lAt_mem (show 0 < L.length by omega))
  obtain ⟨b, eb, hb4⟩ := L_nat hn hL (lAt_mem hi)
  have ha : (a : Int) ∈ L := by rw [← ea]; exact lAt_mem (by omega)
  have hb : (b : Int) ∈ L := by rw [← eb]; exact lAt_mem hi
  rw [ea, eb, Int.toNat_natCast, Int.toNat_natCast]
  refine (al ha hb).1 ?_
  rcases Nat.lt_trichotomy a b with h3 | h3 | h3
  ·exact ((e2 b a).1 (h b a hb4 h3) hb ha).symm
  ·subst h3; exact alS.refl _
  ·exact (e2 a b).1 (h a b ha4 h3) ha hb
 ·intro h a b ha4 hba
  rw [e2]
  have key : ∀ {a : Nat}, (a : Int) ∈ L → ∃ z : Nat, (z : Int) ∈ L ∧ lAt L 0 = (z : Int) ∧ alS vs K (z, aftN vs z l) (a, aftN vs a l) := fun {a} ha => by
   obtain ⟨i, hi, ei⟩ := mem_lAt ha
   obtain ⟨z, ez, _⟩ := L_nat hn hL (lAt_mem (show 0 < L.length by omega))
   have hz : (z : Int) ∈ L := by rw [← ez]; exact lAt_mem (by omega)
   refine ⟨z, hz, ez, ?_⟩
   by_cases h0 : i = 0
   ·subst h0
    rw [ei] at ez
    have : a = z := by omega
    subst this
    exact alS.refl _
   ·refine (al hz ha).2 ?_
    have := h i hi (by omega)
    rw [ez, ei, Int.toNat_natCast, Int.toNat_natCast] at this
    exact this
  intro ha hb
  obtain ⟨z, _, e1, h1⟩ := key ha
  obtain ⟨z', _, e2, h2⟩ := key hb
  have : z = z' := by rw [e1] at e2; omega
  subst this
  exact h1.symm.trans h2
include hv hv0 hs hn hL in
theorem keyJ_run : ∀ l m, OkL K l → OkL K m → l ≠ [] → m ≠ [] → (keyJ vs L l = keyJ vs L m ↔ runB (nextJ vs) (jRun vs L []) l = runB (nextJ vs) (jRun vs L []) m) := fun l m hl hm _ _ => by
 rw [jRun_pos hv hv0 hL l hl, jRun_pos hv hv0 hL m hm]
 exact keyJ_iff hv hv0 hs hn hL hl hm
end
end Go.Vm

namespace Go.Vm
open Go.Proofs
theorem Found.distinct {K : Type} {next : K → Nat → K} {done : K → Prop} {start : K} {c : Nat} {l : List Nat} (h : Found next done start c (some l)) {i j : Nat} (hij : i < j) (hj : j ≤ l.length) : runB next start (l.take i) ≠ runB next start (l.take j) := fun e => by
 obtain ⟨h1, h2, h3⟩ := h.yes l rfl
 have run_app : ∀ (a b : List Nat), runB next start (a ++ b) = runB next (runB next start a) b := fun a b => by unfold runB; rw [List.foldl_append]
 have e1 : runB next start (l.take i ++ l.drop j) = runB next start l := by
  rw [run_app, e, ← run_app, List.take_append_drop]
 have hlen : (l.take i ++ l.drop j).length < l.length := by rw [List.length_append, List.length_take, List.length_drop]; omega
 have h4 := h3 (l.take i ++ l.drop j) (fun x hx => by
  rcases List.mem_append.1 hx with hx | hx
  ·exact h1 x (List.mem_of_mem_take hx)
  ·exact h1 x (List.mem_of_mem_drop hx)) (by rw [e1]; exact h2)
 rcases h4 with (h4 | ⟨h4, _⟩) | h4
 ·omega
 ·omega
 ·rw [← h4] at hlen; omega
theorem Found.bound {K C : Type} [DecidableEq C] {next : K → Nat → K} {done : K → Prop} {start : K} {c : Nat} {l : List Nat} (h : Found next done start c (some l)) (code : List Nat → C) (U : List C) (hU : ∀ i, i ≤ l.length → code (l.take i) ∈ U)
  (hi : ∀ i j, i < j → j ≤ l.length → code (l.take i) = code (l.take j) → runB next start (l.take i) = runB next start (l.take j)) : l.length < U.length := by
 have hn : ((List.range (l.length + 1)).map fun i => code (l.take i)).Nodup := by
  rw [List.nodup_iff_pairwise_ne, List.pairwise_map]
  refine List.nodup_range.imp_of_mem fun {a b} ha hb hab e => ?_
  have ha := List.mem_range.1 ha
  have hb := List.mem_range.1 hb
  rcases Nat.lt_trichotomy a b with h1 | h1 | h1
  ·exact h.distinct h1 (by omega) (hi a b h1 (by omega) e)
  ·exact hab h1
  ·exact h.distinct h1 (by omega) (hi b a h1 (by omega) e.symm)
 have := nodup_length hn (U := U) fun x hx => by
  obtain ⟨i, hi, rfl⟩ := List.mem_map.1 hx
  exact hU i (by have := List.mem_range.1 hi; omega)
 rw [List.length_map, List.length_range] at this
 omega
section
variable {vs : List Vers} {K : Nat} {L : List Int} (hv : ∀ v ∈ vs, VersOk v K) (hv0 : ∀ v ∈ vs, 0 < v.length) (hs : ∀ v ∈ vs, v.length ≤ 4) (hn : vs.length ≤ 4) (hL : LeftOk vs L)
def tupN (vs : List Vers) (L : List Int) (l : List Nat) : Nat × Nat × Nat × Nat := ((erI vs L l 0).toNat, (erI vs L l 1).toNat, (erI vs L l 2).toNat, (erI vs L l 3).toNat)
def all4 : List (Nat × Nat × Nat × Nat) := prodL [0, 1, 2, 3] (prodL [0, 1, 2, 3] (prodL [0, 1, 2, 3] [0, 1, 2, 3]))
theorem all4_length : all4.length = 256 := by
 unfold all4
 simp only [prodL_length]
 rfl
include hv hv0 hs hL in
theorem tup_mem {l : List Nat} (hl : OkL K l) : tupN vs L l ∈ all4 := by
 have key : ∀ n : Nat, (erI vs L l n).toNat ∈ [0, 1, 2, 3] := fun n => by
  have : (erI vs L l n).toNat < 4 := by
   by_cases hm : (n : Int) ∈ L
   ·rw [er_aft hm, Int.toNat_natCast]
    exact aft_lt hv hv0 hs hL hm hl
   ·unfold erI
    rw [if_neg hm]
    decide
  simp
  omega
 exact prodL_mem (key 0) (prodL_mem (key 1) (prodL_mem (key 2) (key 3)))
theorem tup_er {l m : List Nat} (h : tupN vs L l = tupN vs L m) : erI vs L l 0 = erI vs L m 0 ∧ erI vs L l 1 = erI vs L m 1 ∧ erI vs L l 2 = erI vs L m 2 ∧ erI vs L l 3 = erI vs L m 3 := by
 have key : ∀ n : Nat, (erI vs L l n).toNat = (erI vs L m n).toNat → erI vs L l n = erI vs L m n := fun n h => by
  by_cases hm : (n : Int) ∈ L
  ·rw [er_aft hm, er_aft hm] at h ⊢
   omega
  ·unfold erI
   rw [if_neg hm, if_neg hm]
 unfold tupN at h
 simp only [Prod.mk.injEq] at h
 exact ⟨key 0 h.1, key 1 h.2.1, key 2 h.2.2.1, key 3 h.2.2.2⟩
include hv hv0 hs hL in
theorem join_short {done : Pos → Prop} {l : List Nat} (h : Found (nextJ vs) done (jRun vs L []) K (some l)) : l.length < 256 := by
 have hok : OkL K l := (h.yes l rfl).1
 have ok : ∀ i, OkL K (l.take i) := fun i x hx => hok x (List.mem_of_mem_take hx)
 have := h.bound (tupN vs L) all4 (fun i _ => tup_mem hv hv0 hs hL (ok i)) fun i j _ _ e => by
  rw [jRun_pos hv hv0 hL _ (ok i), jRun_pos hv hv0 hL _ (ok j)]
  obtain ⟨k0, k1, k2, k3⟩ := tup_er e
  unfold jRun
  rw [k0, k1, k2, k3]
 rw [all4_length] at this
 exact this
end
end Go.Vm

namespace Go.Vm
open Go.Proofs
theorem lAt_get {L : List Int} {i : Nat} (h : i < L.length) : L[i]? = some (lAt L i) := by simp [lAt, List.getD, h]
theorem vAt_at {vs : List Vers} {n : Nat} (h : n < vs.length) : vs[n]? = some (vAt vs n) := by simp [vAt, List.getD, h]
instance (vs : List Vers) (K : Nat) (L : List Int) (l : List Nat) : Decidable (specJ vs K L l) := by unfold specJ; infer_instance
instance (vs : List Vers) (K : Nat) (L : List Int) (l : List Nat) : Decidable (specS vs K L l) := by unfold specS; infer_instance
set_option maxHeartbeats 4000000 in
set_option maxRecDepth 100000 in
theorem c_joined {b : Book} (hB : BOk b) {L : List Int} (hL : LeftOk b.vs L) {l : List Nat} (hl : OkL b.cues.toNat l) (hlen : l.length < 1000000) (H : List Blk) :
  ACall Tryz.prog 126 [eBook b, eInts L, eInts (cuesI l)] H (.ret (.lit (.bool (decide (specJ b.vs b.cues.toNat L l))))) H := by
 have hbc := hB.1.1
 have hcl := cuesI_length l
 have hfew := hL.few
 unfold inI at hbc
 refine fn_rule (m := false) (fn := Tryz.f126) (c := (Tryz.f126.body).getD .skip) mixed (by kernel_rfl) (by kernel_rfl) (of_decide_eq_true (by kernel_rfl)) ?_ ?_ ?_ H
 ·exact ⟨under_eBook 0 _, under_eInts 0 _, under_eInts 0 _, trivial⟩
 ·trivial
 ·refine LoopG.at (n0 := 1) rfl (loop_up mixed (m := false) (fun r => [(1, eInts L), (2, eInts (cuesI l)), (3, .ptr 0 0), (7, n' (r + 1 : Nat))]) (fun _ => [(0, bBox b)]) (fun r => ∀ i, i < L.length → 1 ≤ i → i ≤ r → dT (vAt b.vs (lAt L 0).toNat) (vAt b.vs (lAt L i).toNat) b.cues.toNat (aftN b.vs (lAt L 0) l) (aftN b.vs (lAt L i) l) = []) L.length 1 (leb rfl) (fun i _ h1 h2 => by omega) ?_ ?_ ?_)
  ·exact ⟨⟨_, rfl, Weak.refl _ _, under_eInts _ _⟩, ⟨_, rfl, Weak.refl _ _, under_eInts _ _⟩, wp rfl (ltb rfl), wp rfl trivial, trivial⟩
  ·exact ⟨bk rfl rfl, trivial⟩
  ·intro r hr hI
   refine If.mk (fun h1 => ?_) (fun h1 => ?_)
   ·refine ifY ?_
    have hr' : r + 1 < L.length := by omega
    have hm0 := hL.mem _ (lAt_mem (show 0 < L.length by omega))
    have hm1 := hL.mem _ (lAt_mem hr')
    have hV := hB.2 _ (vAt_in (show (lAt L 0).toNat < b.vs.length by omega))
    have hW := hB.2 _ (vAt_in (show (lAt L (r + 1)).toNat < b.vs.length by omega))
    have ha := after_lt hV.vers.1 (cuesI_ok hl) hV.vers.2
    have hb := after_lt hW.vers.1 (cuesI_ok hl) hW.vers.2
    refine PickW.mk [16, 17] ?_
    refine Ex.mk _ (jx_ints (r := 0) rfl (lAt_get (by omega))) ?_
    refine Ex.mk _ rfl ?_
    refine Ex.mk _ (jx_versions (r := (lAt L 0).toNat) (by omega) (vAt_at (by omega))) ?_
    refine Ex.mk _ rfl ?_
    refine Ex.mk _ (jx_ints (r := r + 1) rfl (lAt_get hr')) ?_
    refine Ex.mk _ rfl ?_
    refine Ex.mk _ (jx_versions (r := (lAt L (r + 1)).toNat) (by omega) (vAt_at (by omega))) ?_
    refine Ex.mk _ rfl ?_
    refine CallG.pure _ (c_differ b hV.vers.1 hW.vers.1 (by omega) hV.2 hW.2) ?_
    refine CallG.pure _ (c_after hV.vers.1 hV.vers.2 (cuesI_ok hl) (by omega)) ?_
    refine Ex.mk _ (jx_cells (elem := 48) (r := after (vAt b.vs (lAt L 0).toNat) 0 (cuesI l)) rfl ha (by kernel_rfl) (by kernel_rfl)) ?_
    refine Ex.mk _ rfl ?_
    refine CallG.pure _ (c_after hW.vers.1 hW.vers.2 (cuesI_ok hl) (by omega)) ?_
    refine Ex.mk _ (jx_cells (elem := 25) (r := after (vAt b.vs (lAt L (r + 1)).toNat) 0 (cuesI l)) rfl hb (by kernel_rfl) (by kernel_rfl)) ?_
    generalize hd : dT (vAt b.vs (lAt L 0).toNat) (vAt b.vs (lAt L (r + 1)).toNat) b.cues.toNat (after (vAt b.vs (lAt L 0).toNat) 0 (cuesI l)) (after (vAt b.vs (lAt L (r + 1)).toNat) 0 (cuesI l)) = m
    cases m with
    | nil =>
     refine Ex.mk _ rfl ?_
     refine ifN ?_
     refine Side.mk (fits64 (by omega)) ?_
     refine ⟨leb rfl, rfl, by omega, fun i h2 h3 h4 => ?_, ⟨⟨_, rfl, Weak.refl _ _, under_eInts _ _⟩, ⟨_, rfl, Weak.refl _ _, under_eInts _ _⟩, wp rfl (ltb rfl), wp rfl trivial, trivial⟩, ⟨bk rfl rfl, trivial⟩, trivial⟩
     by_cases hi : i = r + 1
     ·subst hi; exact hd
     ·exact hI i h2 h3 (by omega)
    | cons c m =>
     refine Ex.mk _ rfl ?_
     refine ifY ?_
     refine ⟨leb rfl, .inl rfl, FinG.no rfl rfl fun h => ?_⟩
     have h5 : dT (vAt b.vs (lAt L 0).toNat) (vAt b.vs (lAt L (r + 1)).toNat) b.cues.toNat (after (vAt b.vs (lAt L 0).toNat) 0 (cuesI l)) (after (vAt b.vs (lAt L (r + 1)).toNat) 0 (cuesI l)) = [] := h (r + 1) hr' (by omega)
     rw [hd] at h5
     cases h5
   ·refine ifN ?_
    exact ⟨leb rfl, .inl rfl, FinG.yes rfl rfl fun i h2 h3 => hI i h2 h3 (by omega)⟩
end Go.Vm

namespace Go.Vm
open Go.Proofs
theorem dig_step {D : List Nat} {q : Nat} (h : q < D.length) : dig4 (D.take (q + 1)) = dig4 (D.take q) * 4 + D.getD q 0 := by
 rw [List.take_add_one]
 have e : D[q]? = some (D.getD q 0) := by simp [List.getD, h]
 rw [e]
 exact dig4_snoc _ _
theorem dig_le {D : List Nat} (h8 : D.length ≤ 8) (h : ∀ d ∈ D, d < 4) (q : Nat) : dig4 (D.take q) < 65536 := by
 have h1 := dig4_lt (D.take q).length (ds := D.take q) rfl fun d hd => h d (List.mem_of_mem_take hd)
 have h2 : 4 ^ (D.take q).length ≤ 4 ^ 8 := Nat.pow_le_pow_right (by omega) (by rw [List.length_take]; omega)
 have h3 : 4 ^ 8 = 65536 := rfl
 omega
theorem afL_at {vs : List Vers} {L : List Int} {l : List Nat} {q : Nat} (h : q < L.length) : (afL vs L l).getD q 0 = aftN vs (lAt L q) l := by
 unfold afL
 simp [List.getD, lAt, h]
end Go.Vm

namespace Go.Vm
open Go.Proofs
theorem longI (c : Nat) (lev : List (List Nat)) : longerL c (lev.map cuesI) = (longL c lev).map cuesI := by
 unfold longerL longL
 rw [List.flatMap_map, List.map_flatMap]
 congr 1
 funext l
 unfold ext
 rw [List.map_map]
 exact List.map_congr_left fun d _ => (cuesI_snoc l d).symm
def metB (N : Nat) (ks : List Nat) : Blk := .box (cellsR N fun y => .lit (.bool (decide (y ∈ ks)))) 4
theorem under_metB (n N : Nat) (ks : List Nat) : (metB N ks).under n := unders_map (f := fun y => AV.lit (.bool (decide (y ∈ ks)))) (fun _ => trivial) _
theorem wk_lists0N {t : Trie Blk} : Weak t (.sl 1 [.lit (.slice none 0 0)] .full) (eLists (([[]] : List (List Nat)).map cuesI)) := fun _ H _ => by
 have h1 : WeakH H (.sl 1 [.lit (.slice none 0 0)] .full) (.sl 1 [eInts []] .full) := wk_sl (.cons (fun H => wk_nil H) .nil)
 exact fun O ι w c h => WeakH.tail _ _ _ H O ι w c (h1 O ι w c h)
theorem map_get {lev : List (List Nat)} {i : Nat} {x : List Nat} (h : lev[i]? = some x) : (lev.map cuesI)[i]? = some (cuesI x) := by rw [List.getElem?_map, h]; rfl
set_option maxRecDepth 100000 in
theorem load_met {N y : Nat} {ks : List Nat} (h : y < N) : loadA Tryz.prog 4 ((cellsR N fun y => .lit (.bool (decide (y ∈ ks)))).drop (0 + y * 1)) = some (.lit (.bool (decide (y ∈ ks)))) := by
 obtain ⟨l, hl⟩ := cellsR_drop (f := fun y => AV.lit (.bool (decide (y ∈ ks)))) h
 rw [Nat.zero_add, Nat.mul_one, hl]
 rfl
theorem met_set {N y : Nat} {ks : List Nat} (h : y < N) : (cellsR N fun y => AV.lit (.bool (decide (y ∈ ks)))).take (0 + y * 1) ++ [.lit (.bool true)] ++ (cellsR N fun y => AV.lit (.bool (decide (y ∈ ks)))).drop (0 + y * 1 + 1) = cellsR N fun z => .lit (.bool (decide (z ∈ ks ++ [y]))) := by
 rw [Nat.zero_add, Nat.mul_one]
 exact cellsR_set h (by simp) fun z hz => by simp [hz]
theorem met0 (N : Nat) (a : Int) (h : a = N) : some (Blk.box (List.map AV.lit (zeros (Value.bool false).cells.toList (Int.toNat a))) 4) = some (metB N []) := by
 subst h
 rw [Int.toNat_natCast]
 unfold metB
 rw [show (Value.bool false).cells.toList = [.bool false] from rfl, zeros_cells]
 exact congrArg (fun l => some (Blk.box l 4)) (cellsR_congr fun y _ => by simp)
def foldJ (key : List Nat → Nat) (X : List (List Nat)) (ks : List Nat) (q : Nat) : List Nat × List (List Nat) := (X.take q).foldl (stpK key) (ks, [])
theorem foldJ_succ {key : List Nat → Nat} {X : List (List Nat)} {ks : List Nat} {q : Nat} {x : List Nat} (h : X[q]? = some x) : foldJ key X ks (q + 1) = stpK key (foldJ key X ks q) x := by
 unfold foldJ
 rw [List.take_add_one, h, List.foldl_append]
 rfl
theorem foldJ_many {key : List Nat → Nat} (X : List (List Nat)) (ks : List Nat) (q : Nat) : (foldJ key X ks q).1.length = ks.length + (foldJ key X ks q).2.length := by
 have := (adds (key := key) (X.take q) ks []).many
 unfold foldJ
 simpa using this
theorem foldJ_nx {key : List Nat → Nat} (X : List (List Nat)) (ks : List Nat) (q : Nat) : (foldJ key X ks q).2.length ≤ q := by
 induction q with
 | zero => exact Nat.le_refl _
 | succ q ih =>
  cases h : X[q]? with
  | none =>
   have e : X.take (q + 1) = X.take q := by rw [List.take_add_one, h]; simp
   unfold foldJ at ih ⊢
   rw [e]
   omega
  | some x =>
   rw [foldJ_succ h]
   unfold stpK
   split
   ·omega
   ·simp
    omega
theorem rowL_snoc (M : List (List Nat)) (x : List Nat) (id : Nat) : rowL ((M ++ [x]).map cuesI) id = .sl ((M.map cuesI).length + 1) ((M.map cuesI).map eInts ++ [eInts (cuesI x)]) (.own id ((M.map cuesI).length + 1) 1) := by
 unfold rowL
 rw [List.map_append, List.length_append, List.map_append]
 rfl
structure Lvl where
 ks : List Nat
 lev : List (List Nat)
 n : Nat
set_option maxHeartbeats 8000000 in
set_option maxRecDepth 100000 in
theorem c_refJoin {b : Book} (hB : BOk b) {L : List Int} (hL : LeftOk b.vs L) :
  ∃ u, (∃ o, u = firstV o ∧ Found (nextJ b.vs) (doneJ b.vs b.cues.toNat) (jRun b.vs L []) b.cues.toNat o) ∧ ∀ H2, ACall Tryz.prog 63 [eBook b, eInts L] ([] ++ H2) (.ret u) ([] ++ H2) := by
 have hbc := hB.1.1
 have hvn := hB.1.2.2
 have hfew := hL.few
 unfold inI at hbc hvn
 have hv : ∀ v ∈ b.vs, VersOk v b.cues.toNat := fun v hv => (hB.2 v hv).vers.1
 have hv0 : ∀ v ∈ b.vs, 0 < v.length := fun v hv => (hB.2 v hv).vers.2
 have hs : ∀ v ∈ b.vs, v.length ≤ 4 := fun v hv => by have := (hB.2 v hv).2; unfold inI at this; omega
 have hn : b.vs.length ≤ 4 := by omega
 have hdn : ∀ l, OkL b.cues.toNat l → (doneJ b.vs b.cues.toNat (runB (nextJ b.vs) (jRun b.vs L []) l) ↔ specJ b.vs b.cues.toNat L l) := fun l hl => by
  rw [jRun_pos hv hv0 hL l hl]
  exact doneJ_iff hv hv0 hn hL hl
 have hrun := keyJ_run hv hv0 hs hn hL
 obtain ⟨N, hN⟩ : ∃ N : Nat, N = 256 := ⟨_, rfl⟩
 have hkl : ∀ ks lev n, InvW (nextJ b.vs) (doneJ b.vs b.cues.toNat) (jRun b.vs L []) b.cues.toNat (keyJ b.vs L) ks lev n → ks.length ≤ 256 := fun ks lev n h => by
  have := nodup_length h.nodup (U := List.range 256) fun x hx => by
   obtain ⟨l, h1, rfl⟩ := h.keys x hx
   exact List.mem_range.2 (keyJ_lt hv hv0 hs hL h1)
  rwa [List.length_range] at this
 refine fn_preE (m := false) (fn := Tryz.f63) (c := (Tryz.f63.body).getD .skip) (t0 := ofL []) (n0 := 0) _ mixed (by kernel_rfl) (by kernel_rfl) (of_decide_eq_true (by kernel_rfl)) (HT.full (l := []) trivial rfl) ?_ (fun _ h => by cases h) ?_
 ·exact ⟨under_eBook 0 _, under_eInts 0 _, trivial⟩
 ·refine LoopG.at (n0 := 2) rfl ?_
  refine loop_r mixed (m := false) (α := { s : Lvl // InvW (nextJ b.vs) (doneJ b.vs b.cues.toNat) (jRun b.vs L []) b.cues.toNat (keyJ b.vs L) s.ks s.lev s.n }) (fun a => [(1, eInts L), (2, .ptr 0 0), (6, .hsl 1 0 N N), (7, eLists (a.1.lev.map cuesI))]) (fun a => [(0, bBox b), (1, metB N a.1.ks)]) (fun a => 2 * (256 - a.1.ks.length) + a.1.lev.length) 1
   ⟨⟨[], [[]], 0⟩, InvW.begin⟩ (leb rfl) ?_ ?_ ?_
  ·exact ⟨⟨_, rfl, Weak.refl _ _, under_eInts _ _⟩, wp rfl (ltb rfl), ⟨_, rfl, by rw [hN]; exact Weak.refl _ _, ltb rfl⟩, ⟨_, rfl, wk_lists0N, under_eLists _ _⟩, trivial⟩
  ·exact ⟨bk rfl rfl, ⟨met0 N _ (by rw [hN]; rfl), ltb rfl⟩, trivial⟩
  ·rintro ⟨⟨ks, lev, n⟩, hI⟩
   have hI : InvW (nextJ b.vs) (doneJ b.vs b.cues.toNat) (jRun b.vs L []) b.cues.toNat (keyJ b.vs L) ks lev n := hI
   have hk := hkl ks lev n hI
   have hlm : (lev.map cuesI).length = lev.length := List.length_map _
   have hfw := hI.few
   refine If.mk (fun h0 => ?_) (fun h0 => ?_)
   ·refine ifY ?_
    have h0' : (0 : Int) < ((lev.map cuesI).length : Nat) := h0
    have hne : lev ≠ [] := fun e => by rw [e] at h0'; simp at h0'
    have hnk : n ≤ ks.length := hI.long.resolve_right hne
    -- is one of them done
    refine LoopG.at (n0 := 2) rfl (loop_up mixed (m := false) (fun r => [(1, eInts L), (2, .ptr 0 0), (6, .hsl 1 0 N N), (7, eLists (lev.map cuesI)), (8, n' r)]) (fun _ => [(0, bBox b), (1, metB N ks)]) (fun r => ∀ m ∈ lev.take r, ¬ doneJ b.vs b.cues.toNat (runB (nextJ b.vs) (jRun b.vs L []) m)) lev.length 1 (leb rfl) (fun m hm => by cases hm) ?_ ?_ ?_)
    ·exact ⟨⟨_, rfl, Weak.refl _ _, under_eInts _ _⟩, wp rfl (ltb rfl), wp rfl (ltb rfl), ⟨_, rfl, Weak.refl _ _, under_eLists _ _⟩, wp rfl trivial, trivial⟩
    ·exact ⟨bk rfl rfl, bk rfl rfl, trivial⟩
    ·intro r hr hJ
     refine If.mk (fun h1 => ?_) (fun h1 => ?_)
     ·refine ifY ?_
      have hr' : r < lev.length := by omega
      obtain ⟨x, hx, htk, hxm⟩ := at_some (l := lev) (r := r) hr'
      obtain ⟨hxn, hxo⟩ := hI.len x hxm
      refine Ex.mk _ (jx_lists (r := r) rfl (map_get hx)) ?_
      refine Ex.mk _ rfl ?_
      refine CallG.bool (c_joined hB hL hxo (by omega)) (fun hd => ?_) (fun hd => ?_)
      ·refine ifY ?_
       refine Ex.mk _ (jx_lists (r := r) rfl (map_get hx)) ?_
       refine Ex.mk _ rfl ?_
       have hsplit : lev = lev.take r ++ x :: lev.drop (r + 1) := by
        have h2 : lev.drop r = x :: lev.drop (r + 1) := by
         rw [List.drop_eq_getElem_cons hr']
         rw [List.getElem?_eq_getElem hr'] at hx
         rw [Option.some.inj hx]
        rw [← h2, List.take_append_drop]
       refine ⟨leb rfl, leb rfl, .inl rfl, leb rfl, rfl, _, firstV (some x), rfl, (fun H => WeakH.refl _ H), under_firstV _ _, some x, rfl, hI.found hsplit hJ ((hdn x hxo).2 hd)⟩
      ·refine ifN ?_
       refine Side.mk (fits64 (by omega)) ?_
       refine ⟨leb rfl, rfl, by omega, fun m hm => ?_, ⟨⟨_, rfl, Weak.refl _ _, under_eInts _ _⟩, wp rfl (ltb rfl), wp rfl (ltb rfl), ⟨_, rfl, Weak.refl _ _, under_eLists _ _⟩, wp rfl trivial, trivial⟩, ⟨bk rfl rfl, bk rfl rfl, trivial⟩, trivial⟩
       rw [htk] at hm
       rcases List.mem_append.1 hm with hm | hm
       ·exact hJ m hm
       ·rw [List.mem_singleton] at hm
        subst hm
        exact fun h => hd ((hdn m hxo).1 h)
     ·refine ifN ?_
      have er : r = lev.length := by omega
      subst er
      rw [List.take_length] at hJ
      refine ⟨leb rfl, ?_⟩
      have hXl := longer_length b.cues.toNat (lev.map cuesI)
      have hll : ∀ l ∈ lev.map cuesI, l.length < 1000000 := fun l hl => by
       obtain ⟨y, hy, rfl⟩ := List.mem_map.1 hl
       rw [cuesI_length, (hI.len y hy).1]
       omega
      have hmul : (lev.map cuesI).length * b.cues.toNat ≤ 257 * 4 := Nat.mul_le_mul (by omega) (by omega)
      refine CallG.pure _ (c_longerW (by omega) (lev.map cuesI) (by omega) (by omega) hll) ?_
      rw [longI] at hXl ⊢
      rw [List.length_map] at hXl
      have hXm : ∀ m ∈ longL b.cues.toNat lev, OkL b.cues.toNat m ∧ m.length = n + 1 := fun m hm => by
       obtain ⟨l, h2, d, h3, rfl⟩ := longL_mem.1 hm
       obtain ⟨h4, h5⟩ := hI.len l h2
       refine ⟨fun z hz => ?_, by rw [List.length_append, h4]; rfl⟩
       rcases List.mem_append.1 hz with hz | hz
       ·exact h5 z hz
       ·rw [List.mem_singleton] at hz; omega
      obtain ⟨hstep, hsl⟩ := hI.step hrun hJ
      have hke := hkl _ _ _ hstep
      have hlevK : levK (keyJ b.vs L) b.cues.toNat ks lev = foldJ (keyJ b.vs L) (longL b.cues.toNat lev) ks (longL b.cues.toNat lev).length := by
       unfold foldJ levK
       rw [List.take_length]
      rw [hlevK] at hstep hsl
      clear hlevK hke
      have hfk := fun q => foldJ_many (key := keyJ b.vs L) (longL b.cues.toNat lev) ks q
      have hfx := fun q => foldJ_nx (key := keyJ b.vs L) (longL b.cues.toNat lev) ks q
      have hXm' : ((longL b.cues.toNat lev).map cuesI).length = (longL b.cues.toNat lev).length := List.length_map _
      generalize hX : longL b.cues.toNat lev = X at *
      refine LoopG.ghost (LoopG.at (n0 := 3) rfl ?_)
      refine loop_up mixed (m := false) (fun q => [(1, eInts L), (2, .ptr 0 0), (6, .hsl 1 0 N N), (7, rowL ((foldJ (keyJ b.vs L) X ks q).2.map cuesI) 2), (9, eLists (X.map cuesI)), (10, n' q)]) (fun q => [(0, bBox b), (1, metB N (foldJ (keyJ b.vs L) X ks q).1), (2, .row ((foldJ (keyJ b.vs L) X ks q).2.map cuesI).length)]) (fun _ => True) X.length 1 (leb rfl) trivial ?_ ?_ ?_
      ·exact ⟨⟨_, rfl, Weak.refl _ _, under_eInts _ _⟩, wp rfl (ltb rfl), wp rfl (ltb rfl), ⟨_, rfl, Weak.own (r := 2) (g := 0) 1 rfl, ⟨trivial, ltb rfl⟩⟩, ⟨_, rfl, Weak.refl _ _, under_eLists _ _⟩, wp rfl trivial, trivial⟩
      ·exact ⟨bk rfl rfl, bk rfl rfl, bk rfl rfl, trivial⟩
      ·intro q hq _
       refine If.mk (fun h2 => ?_) (fun h2 => ?_)
       ·refine ifY ?_
        have hq' : q < X.length := by omega
        obtain ⟨x, hx, htk, hxm⟩ := at_some (l := X) (r := q) hq'
        obtain ⟨hxo, hxn⟩ := hXm x hxm
        have hkb : keyJ b.vs L x < N := by rw [hN]; exact keyJ_lt hv hv0 hs hL hxo
        have hsucc := foldJ_succ (key := keyJ b.vs L) (ks := ks) hx
        have hfq := hfx q
        have hD4 := afL_lt hv hv0 hs hL hxo
        have hDl := afL_length (vs := b.vs) (L := L) x
        refine LoopG.at (n0 := 3) rfl (loop_up mixed (m := false) (fun k => [(1, eInts L), (2, .ptr 0 0), (6, .hsl 1 0 N N), (7, rowL ((foldJ (keyJ b.vs L) X ks q).2.map cuesI) 2), (9, eLists (X.map cuesI)), (10, n' q), (11, n' (dig4 ((afL b.vs L x).take k) : Nat)), (12, n' k)]) (fun _ => [(0, bBox b), (1, metB N (foldJ (keyJ b.vs L) X ks q).1), (2, .row ((foldJ (keyJ b.vs L) X ks q).2.map cuesI).length)]) (fun _ => True) L.length 1 (leb rfl) trivial ?_ ?_ ?_)
        ·exact ⟨⟨_, rfl, Weak.refl _ _, under_eInts _ _⟩, wp rfl (ltb rfl), wp rfl (ltb rfl), ⟨_, rfl, Weak.refl _ _, under_rowL _ (ltb rfl) _⟩, ⟨_, rfl, Weak.refl _ _, under_eLists _ _⟩, wp rfl trivial, wp rfl trivial, wp rfl trivial, trivial⟩
        ·exact ⟨bk rfl rfl, bk rfl rfl, bk rfl rfl, trivial⟩
        ·intro k hkL _
         have hdg := dig_le (by omega) hD4 k
         refine If.mk (fun h3 => ?_) (fun h3 => ?_)
         ·refine ifY ?_
          have hk' : k < L.length := by omega
          have hm0 := hL.mem _ (lAt_mem hk')
          have hV := hB.2 _ (vAt_in (show (lAt L k).toNat < b.vs.length by omega))
          have haf := aft_lt hv hv0 hs hL (lAt_mem hk') hxo
          have hst := dig_step (D := afL b.vs L x) (q := k) (by omega)
          rw [afL_at hk'] at hst
          refine Side.mk (fits64 (by omega)) ?_
          refine Ex.mk _ (jx_ints (r := k) rfl (lAt_get hk')) ?_
          refine Ex.mk _ rfl ?_
          refine Ex.mk _ (jx_versions (r := (lAt L k).toNat) (by omega) (vAt_at (by omega))) ?_
          refine Ex.mk _ rfl ?_
          refine Ex.mk _ (jx_lists (r := q) rfl (map_get hx)) ?_
          refine Ex.mk _ rfl ?_
          refine CallG.pure (n' (aftN b.vs (lAt L k) x : Nat)) (c_after hV.vers.1 hV.vers.2 (cuesI_ok hxo) (by rw [cuesI_length]; omega)) ?_
          refine Side.mk (fits64 (by omega)) ?_
          refine Side.mk (fits64 (by omega)) ?_
          refine ⟨leb rfl, rfl, by omega, trivial, ⟨⟨_, rfl, Weak.refl _ _, under_eInts _ _⟩, wp rfl (ltb rfl), wp rfl (ltb rfl), ⟨_, rfl, Weak.refl _ _, under_rowL _ (ltb rfl) _⟩, ⟨_, rfl, Weak.refl _ _, under_eLists _ _⟩, wp rfl trivial, ⟨_, rfl, Weak.of_eq (?_), trivial⟩, wp rfl trivial, trivial⟩, ⟨bk rfl rfl, bk rfl rfl, bk rfl rfl, trivial⟩, trivial⟩
          rw [hst]
          rfl
         ·refine ifN ?_
          have ek : k = L.length := by omega
          subst ek
          refine ⟨leb rfl, ?_⟩
          have hkey : ((dig4 ((afL b.vs L x).take L.length) : Nat) : Int) = ((keyJ b.vs L x : Nat) : Int) := by
           rw [List.take_of_length_le (by omega)]
           rfl
          refine NowR.of (aop_indexH (elem := 4) (sz := 1) (r := keyJ b.vs L x) rfl rfl rfl hkey hkb (by kernel_rfl) (by kernel_rfl)) ?_
          refine NowR.of (aop_loadP rfl rfl rfl (load_met hkb)) ?_
          refine IfB.mk (fun hm => ?_) (fun hm => ?_)
          ·have hm' : keyJ b.vs L x ∉ (foldJ (keyJ b.vs L) X ks q).1 := by simpa using hm
           have hS : foldJ (keyJ b.vs L) X ks (q + 1) = ((foldJ (keyJ b.vs L) X ks q).1 ++ [keyJ b.vs L x], (foldJ (keyJ b.vs L) X ks q).2 ++ [x]) := by
            rw [hsucc]
            exact if_neg hm'
           apply gOps_now
           case hw => rfl
           case hd => rfl
           case hs => rfl
           case hn => exact fun _ => rfl
           case ha => exact rfl
           apply gOps_now
           case hw => rfl
           case hd => rfl
           case hs => rfl
           case hn => exact fun _ => rfl
           case ha => exact rfl
           apply gOps_now
           case hw => rfl
           case hd => rfl
           case hs => rfl
           case hn => exact fun _ => rfl
           case ha => exact aop_indexH (elem := 4) (sz := 1) (r := keyJ b.vs L x) rfl rfl rfl hkey hkb (by kernel_rfl) (by kernel_rfl)
           apply gOps_st
           case hw => rfl
           case hd => rfl
           case hn => exact fun _ => rfl
           case ha => exact aop_stP (t := 4) rfl rfl rfl (store_ptr (cells' := cellsR N fun z => .lit (.bool (decide (z ∈ (foldJ (keyJ b.vs L) X ks q).1 ++ [keyJ b.vs L x])))) rfl (by kernel_rfl) (by rw [cellsR_length]; omega) rfl rfl (met_set hkb))
           case hl => exact fun _ => rfl
           refine Ex.mk _ (jx_lists (r := q) rfl (map_get hx)) ?_
           refine Ex.mk _ rfl ?_
           refine ex_app _ _ (app_list (List.length_map _) (by rw [List.length_map]; omega) rfl rfl) ?_
           refine Side.mk (fits64 (by omega)) ?_
           refine ⟨leb rfl, rfl, by omega, trivial, ⟨⟨_, rfl, Weak.refl _ _, under_eInts _ _⟩, wp rfl (ltb rfl), wp rfl (ltb rfl), ⟨_, rfl, Weak.of_eq (?_), under_rowL _ (ltb rfl) _⟩, ⟨_, rfl, Weak.refl _ _, under_eLists _ _⟩, wp rfl trivial, trivial⟩, ⟨bk rfl rfl, ⟨?_, ltb rfl⟩, ⟨?_, ltb rfl⟩, trivial⟩, ⟨⟨_, rfl, under_metB _ N ((foldJ (keyJ b.vs L) X ks q).1 ++ [keyJ b.vs L x])⟩, ⟨_, rfl, trivial⟩, trivial⟩⟩
           ·rw [hS]
            exact (rowL_snoc _ _ _).symm
           ·rw [hS]
            rfl
           ·rw [hS, List.map_append, List.length_append]
            rfl
          ·have hm' : keyJ b.vs L x ∈ (foldJ (keyJ b.vs L) X ks q).1 := by simpa using hm
           have hS : foldJ (keyJ b.vs L) X ks (q + 1) = foldJ (keyJ b.vs L) X ks q := by
            rw [hsucc]
            exact if_pos hm'
           refine Side.mk (fits64 (by omega)) ?_
           refine ⟨leb rfl, rfl, by omega, trivial, ⟨⟨_, rfl, Weak.refl _ _, under_eInts _ _⟩, wp rfl (ltb rfl), wp rfl (ltb rfl), ⟨_, rfl, Weak.of_eq (?_), under_rowL _ (ltb rfl) _⟩, ⟨_, rfl, Weak.refl _ _, under_eLists _ _⟩, wp rfl trivial, trivial⟩, ⟨bk rfl rfl, ⟨?_, ltb rfl⟩, ⟨?_, ltb rfl⟩, trivial⟩, ⟨⟨_, rfl, under_metB _ N (foldJ (keyJ b.vs L) X ks q).1⟩, ⟨_, rfl, trivial⟩, trivial⟩⟩
           ·rw [hS]
           ·rw [hS]
            rfl
           ·rw [hS]
            rfl
       ·refine ifN ?_
        have eq : q = X.length := by omega
        subst eq
        have hklq := hkl _ _ _ hstep
        refine ⟨leb rfl, ?_⟩
        refine ⟨leb rfl, rfl, ⟨⟨(foldJ (keyJ b.vs L) X ks X.length).1, (foldJ (keyJ b.vs L) X ks X.length).2, n + 1⟩, hstep⟩, ?_, ⟨⟨_, rfl, Weak.refl _ _, under_eInts _ _⟩, wp rfl (ltb rfl), wp rfl (ltb rfl), ⟨_, rfl, ?_, under_eLists _ _⟩, trivial⟩, ⟨bk rfl rfl, ⟨?_, ltb rfl⟩, trivial⟩, ⟨⟨_, rfl, under_metB _ N (foldJ (keyJ b.vs L) X ks X.length).1⟩, trivial⟩⟩
        ·show 2 * (256 - (foldJ (keyJ b.vs L) X ks X.length).1.length) + (foldJ (keyJ b.vs L) X ks X.length).2.length < 2 * (256 - ks.length) + lev.length
         have := List.length_pos_iff.2 hne
         omega
        ·exact fun _ H _ => WeakH.tail _ _ _ H
        ·rfl
   ·refine ifN ?_
    have h0' : ¬ (0 : Int) < ((lev.map cuesI).length : Nat) := h0
    have he : lev = [] := List.length_eq_zero_iff.1 (by omega)
    subst he
    refine ⟨leb rfl, ?_⟩
    exact ⟨.inl rfl, leb rfl, rfl, _, firstV none, rfl, (fun H => wk_tup2F (wk_nil H)), under_firstV _ _, none, rfl, hI.nothing⟩
end Go.Vm
