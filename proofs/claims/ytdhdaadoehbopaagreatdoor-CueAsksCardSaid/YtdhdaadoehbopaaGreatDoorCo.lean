/-
  Contracts of functions of packages kelirlaw04, kelirref04, kelirref02, cue and slices, for books, evenings and lists as told at each, in every heap. Conditions: at each theorem. (A search by breadth finds the first list of cues; what such searches share.)
-/
import Derived.Test.YtdhdaadoehbopaaGreatDoorVr
import Derived.Test.YtdhdaadoehbopaaGreatDoorCb
import Derived.Test.YtdhdaadoehbopaaGreatDoorVc

namespace Go.Vm
def Lx : List Nat → List Nat → Prop
 | a :: l, b :: m => a < b ∨ a = b ∧ Lx l m
 | _, _ => False
def LL (a b : List Nat) : Prop := a.length < b.length ∨ a.length = b.length ∧ Lx a b
def LE (a b : List Nat) : Prop := LL a b ∨ a = b
section
variable {K : Type} (next : K → Nat → K) (done : K → Prop) (start : K) (c : Nat)
def runB (l : List Nat) : K := l.foldl next start
theorem runB_snoc (l : List Nat) (d : Nat) : runB next start (l ++ [d]) = next (runB next start l) d := by
 unfold runB
 rw [List.foldl_append]; rfl
def OkL (l : List Nat) : Prop := ∀ x ∈ l, x < c
def Least (x : K) (l : List Nat) : Prop := runB next start l = x ∧ OkL c l ∧ ∀ u, OkL c u → runB next start u = x → LE l u
structure InvO (q : List (K × List Nat)) (met : List K) (proc : K → Prop) : Prop where
 s : start ∈ met
 split : ∀ y ∈ met, proc y ∨ ∃ m, (y, m) ∈ q
 nd : ∀ y, proc y → ¬ done y
 cl : ∀ y, proc y → ∀ d, d < c → next y d ∈ met
 least : ∀ p ∈ q, Least next start c p.1 p.2
 sorted : q.Pairwise fun a b => LL a.2 b.2
 par : ∀ p ∈ q, p.2 = [] ∨ ∃ m0 c0, p.2 = m0 ++ [c0] ∧ ∀ h ∈ q.head?, LL m0 h.2
structure InvI (x : K) (l : List Nat) (r : Nat) (q : List (K × List Nat)) (met : List K) (proc : K → Prop) : Prop where
 s : start ∈ met
 split : ∀ y ∈ met, (proc y ∨ y = x) ∨ ∃ m, (y, m) ∈ q
 nd : ∀ y, proc y → ¬ done y
 ndx : ¬ done x
 cl : ∀ y, proc y → ∀ d, d < c → next y d ∈ met
 clx : ∀ d, d < r → next x d ∈ met
 leastx : Least next start c x l
 least : ∀ p ∈ q, Least next start c p.1 p.2
 sorted : q.Pairwise fun a b => LL a.2 b.2
 above : ∀ p ∈ q, LL l p.2
 par : ∀ p ∈ q, p.2 = [] ∨ ∃ m0 c0, p.2 = m0 ++ [c0] ∧ (LL m0 l ∨ m0 = l ∧ c0 < r)
variable {next done start c}
theorem leaves {met : List K} : ∀ (t u : List Nat), runB next start u ∈ met → runB next start (u ++ t) ∉ met → ∃ w d t', u ++ t = w ++ d :: t' ∧ runB next start w ∈ met ∧ next (runB next start w) d ∉ met
 | [], u, h, h' => absurd h (by rwa [List.append_nil] at h')
 | d :: t, u, h, h' => by
  by_cases hm : next (runB next start u) d ∈ met
  ·have e : u ++ d :: t = (u ++ [d]) ++ t := by simp
   rw [e] at h' ⊢
   exact leaves t (u ++ [d]) (by rw [runB_snoc]; exact hm) h'
  ·exact ⟨u, d, t, rfl, h, hm⟩
structure Found (next : K → Nat → K) (done : K → Prop) (start : K) (c : Nat) (o : Option (List Nat)) : Prop where
 yes : ∀ l, o = some l → OkL c l ∧ done (runB next start l) ∧ ∀ u, OkL c u → done (runB next start u) → LE l u
 no : o = none → ∀ u, OkL c u → ¬ done (runB next start u)
end
theorem nodup_length {α : Type} [DecidableEq α] : ∀ {l U : List α}, l.Nodup → (∀ x ∈ l, x ∈ U) → l.length ≤ U.length
 | [], _, _, _ => Nat.zero_le _
 | x :: l, U, hn, hU => by
  obtain ⟨h1, h2⟩ := List.nodup_cons.1 hn
  have hx := hU x (by simp)
  have ih := nodup_length (l := l) (U := U.erase x) h2 fun y hy => by
   refine (List.mem_erase_of_ne ?_).2 (hU y (by simp [hy]))
   rintro rfl; exact h1 hy
  rw [List.length_erase_of_mem hx] at ih
  have := List.length_pos_of_mem hx
  rw [List.length_cons]; omega
end Go.Vm

namespace Go.Vm
open Go.Proofs
def prodL {α β : Type} (l : List α) (m : List β) : List (α × β) := l.flatMap fun a => m.map fun b => (a, b)
theorem prodL_length {α β : Type} (m : List β) : ∀ l : List α, (prodL l m).length = l.length * m.length
 | [] => by simp [prodL]
 | a :: l => by
  have ih := prodL_length m l
  unfold prodL at ih ⊢
  rw [List.flatMap_cons, List.length_append, ih, List.length_map, List.length_cons, Nat.succ_mul, Nat.add_comm]
theorem prodL_mem {α β : Type} {l : List α} {m : List β} {a : α} {b : β} (ha : a ∈ l) (hb : b ∈ m) : (a, b) ∈ prodL l m :=
 List.mem_flatMap.2 ⟨a, ha, List.mem_map.2 ⟨b, hb, rfl⟩⟩
def r2 : List Bool := [false, true]
def tv : AV := .lit (.bool true)
theorem isI64_small {n : Int} (h : -1 ≤ n ∧ n ≤ 1000) : isI64 (.int .i64 n) = true := by
 unfold isI64
 rw [Bool.and_eq_true, decide_eq_true_iff, decide_eq_true_iff]
 omega
set_option maxRecDepth 100000 in
theorem c_index (l : List Int) (x : Int) (hl : l.length < 4611686018427387904) (H : List Blk) : ACall Tryz.prog 199 [eInts l, n' x] H (.ret (n' (idxOf (fun y => x = y) l))) H := by
 refine fn_rule (m := false) (fn := Tryz.f199) (c := (Tryz.f199.body).getD .skip) mixed (by kernel_rfl) (by kernel_rfl) (of_decide_eq_true (by kernel_rfl)) ?_ ?_ ?_ H
 ·exact ⟨under_eInts 0 _, trivial, trivial⟩
 ·trivial
 ·refine LoopG.at (n0 := 0) rfl (loop_up mixed (m := false) (fun r => [(0, eInts l), (1, n' x), (7, n' (l.length : Nat)), (8, n' r)]) (fun _ => []) (fun r => ∀ y ∈ l.take r, ¬ x = y) l.length 0 (Nat.zero_le _) (fun _ h => by simp at h) ?_ trivial ?_)
  ·exact ⟨⟨_, rfl, Weak.refl _ _, under_eInts _ _⟩, wp rfl trivial, wp rfl trivial, wp rfl trivial, trivial⟩
  ·intro r hr hI
   refine If.mk (fun h1 => ?_) (fun h1 => ?_)
   ·refine ifY ?_
    have hrl : r < l.length := by omega
    refine Ex.mk _ (jx_ints (r := r) rfl (List.getElem?_eq_getElem hrl)) ?_
    refine Ex.mk _ rfl ?_
    refine If.mk (fun h2 => ?_) (fun h2 => ?_)
    ·refine ifY ?_
     refine ⟨Nat.zero_le _, .inl rfl, FinG.mk _ rfl rfl ?_⟩
     rw [idx_hit hrl hI h2]
     rfl
    ·refine ifN ?_
     refine Side.mk (fits64 (by omega)) ?_
     exact ⟨Nat.zero_le _, rfl, by omega, all_snoc (p := fun y => ¬ x = y) hrl hI h2, ⟨⟨_, rfl, Weak.refl _ _, under_eInts _ _⟩, wp rfl trivial, wp rfl trivial, wp rfl trivial, trivial⟩, trivial, trivial⟩
   ·refine ifN ?_
    have er : r = l.length := by omega
    subst er
    rw [List.take_length] at hI
    refine ⟨Nat.zero_le _, .inl rfl, FinG.mk _ rfl rfl ?_⟩
    rw [idx_miss hI]
    rfl
set_option maxRecDepth 100000 in
theorem c_contains (l : List Int) (x : Int) (hl : l.length < 4611686018427387904) (H : List Blk) : ACall Tryz.prog 164 [eInts l, n' x] H (.ret (.lit (.bool (decide (x ∈ l))))) H := by
 have key : 0 ≤ idxOf (fun y => x = y) l ↔ x ∈ l := idx_nonneg.trans ⟨fun ⟨y, h1, h2⟩ => by rw [h2]; exact h1, fun h => ⟨x, h, rfl⟩⟩
 refine fn_rule (m := false) (fn := Tryz.f164) (c := (Tryz.f164.body).getD .skip) mixed (by kernel_rfl) (by kernel_rfl) (of_decide_eq_true (by kernel_rfl)) ?_ ?_ ?_ H
 ·exact ⟨under_eInts 0 _, trivial, trivial⟩
 ·trivial
 ·refine CallG.pure _ (c_index l x hl) ?_
  refine If.mk (fun h => ?_) (fun h => ?_)
  ·exact ⟨.inl rfl, FinG.yes rfl rfl (key.1 h)⟩
  ·exact ⟨.inl rfl, FinG.no rfl rfl (fun e => h (key.2 e))⟩
def cuesI (l : List Nat) : List Int := l.map fun c : Nat => (c : Int)
def cuesA (l : List Nat) : AV := eInts (cuesI l)
theorem cuesI_length (l : List Nat) : (cuesI l).length = l.length := List.length_map _
theorem under_cuesA (n : Nat) (l : List Nat) : (cuesA l).under n := under_eInts n _
theorem cuesI_ok {k : Nat} {l : List Nat} (h : OkL k l) : CuesOk k (cuesI l) := fun c hc => by
 obtain ⟨x, hx, rfl⟩ := List.mem_map.1 hc
 have := h x hx
 omega
theorem ints_cues {k : Nat} {l : List Int} (h : CuesOk k l) : ∃ u, OkL k u ∧ cuesI u = l := by
 refine ⟨l.map Int.toNat, fun x hx => ?_, ?_⟩
 ·obtain ⟨y, hy, rfl⟩ := List.mem_map.1 hx
  have := h y hy
  omega
 ·unfold cuesI
  rw [List.map_map]
  conv => rhs; rw [← List.map_id l]
  refine List.map_congr_left fun y hy => ?_
  have := h y hy
  simp only [Function.comp, id]
  omega
theorem ACall.weakRet' {P : Program} {f : FuncId} {args : List AV} {H H' : List Blk} {v v' : AV} (h : ACall P f args H (.ret v) H') (hw : ∀ H, WeakH H v v') : ACall P f args H (.ret v') H' := by
 intro O ι w cs hR hargs
 refine (h O ι w cs hR hargs).mono ?_
 rintro e w' ⟨ι', hend, hR', hev, hnon⟩
 refine ⟨ι', ?_, hR', hev, hnon⟩
 cases e with
 | returned c => exact hw H' O ι' w' c hend
 | panicked chain => exact hend.elim
 | outgrown => exact hend.elim
theorem fn_preE {P : Program} {m : Bool} {f : FuncId} {fn : Func} {c : Code} {args : List AV} {t0 : Trie Blk} {Hp : List Blk} {n0 : Nat} (Pr : AV → Prop) (hm : P.follows .mixedOrders = true) (hf : P.funcs[f]? = some fn) (hb : fn.body = some c) (hn : args.length ≤ fn.ntmps)
  (hH : HT t0 n0 Hp) (ha : AV.unders n0 args) (hp : ∀ B ∈ Hp, B.under n0)
  (h : gCode P m fn.ntmps none c (initVars 0 args) t0 n0 [] noLo fun x e lo => (x = .ret ∨ x = .normal) ∧ n0 ≤ lo ∧ e.defs = [] ∧ ∃ vs v, resT P (get e.t) e.vars fn.results.toList = some vs ∧ (∀ H, WeakH H (resV vs) v) ∧ v.under n0 ∧ Pr v) :
  ∃ v, Pr v ∧ ∀ H2, ACall P f args (Hp ++ H2) (.ret v) (Hp ++ H2) := by
 have e0 := hH.len
 subst e0
 obtain ⟨x, e, lo, H', hH', hk', hrun, hx, hlo, hd, vs, v, hres, hw, hv, hP⟩ := gCode_spec hm c _ _ _ _ _ _ h Hp Hp hH (Keep.refl _ _)
 rw [hd] at hrun
 have hcr : ACall P f args Hp (.ret v) H' := (ACall.intro_marks hf hb hn hrun hx List.nodup_nil (resT_sound hH' hres)).weakRet' hw
 have e : H'.take Hp.length = Hp := by
  refine List.ext_getElem? fun i => ?_
  by_cases hi : i < Hp.length
  ·rw [List.getElem?_take_of_lt hi]; exact hk'.low i (by omega) hi
  ·rw [List.getElem?_eq_none (by rw [List.length_take]; omega), List.getElem?_eq_none (by omega)]
 have hcut := hcr.cut hv (by rw [e]; exact hp)
 rw [e] at hcut
 exact ⟨v, hP, fun H2 => hcut.frame rfl ha hv hp hp H2⟩
theorem app_cons {g : Nat → Option Blk} {n : Nat} {a : Int} {l : List Int} (h : l ≠ []) (hl : l.length ≤ 2000000) : appT Tryz.prog false g n 25 25 (.sl 1 [n' a] .full) (eInts l) = some (.sl (1 + l.length) ([n' a] ++ l.map n') (.own n 0 1), .push (.row 0)) :=
 appT_full (e := 3) (bytes := 8) (z := .int .i64 0) (by kernel_rfl) (by kernel_rfl) (by kernel_rfl) (by kernel_rfl) (by kernel_rfl) (src_ints g l) (List.length_pos_iff.2 h) rfl (by omega)
theorem WeakH.fullOwnN {H : List Blk} {r len : Nat} {cells : List AV} {sz : Nat} (hn : cells.length = len * sz) (hr : H[r]? = some (.row 0)) : WeakH H (.sl len cells .full) (.sl len cells (.own r 0 sz)) := fun _ _ _ _ h => by
 simp only [VRel] at h ⊢
 obtain ⟨base, cap, hc, hle, hcells, ht⟩ := h
 exact ⟨base, cap, hc, hle, hcells, hn, 0, hr, Nat.le_refl _, fun _ => .inl ht⟩
end Go.Vm
