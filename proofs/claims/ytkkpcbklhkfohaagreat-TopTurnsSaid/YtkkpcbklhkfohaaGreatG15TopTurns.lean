/-
  Texts of the proof, part 15: the machine, contracts of functions, plain laws. (Own work.)
-/
import Derived.Test.YtkkpcbklhkfohaaGreatG11TopTurns
import Derived.Laws.Runes
import Derived.KernelRfl
import Derived.Test.YtkkpcbklhkfohaaGreatG12TopTurns

namespace Go.Vm
open Go.Proofs
theorem ltb {a b : Nat} (h : Nat.blt a b = true) : a < b := Nat.le_of_ble_eq_true h
theorem leb {a b : Nat} (h : Nat.ble a b = true) : a ≤ b := Nat.le_of_ble_eq_true h
theorem fits64 {n : Int} (h : -9223372036854775808 ≤ n ∧ n < 9223372036854775808) : fitsK .i64 n := by
 unfold fitsK
 simp only [IntKind.wrap, IntKind.bits, IntKind.signed]
 simp
 omega
theorem appT_own {P : Program} {g : Nat → Option Blk} {n sT xT e size bytes len k id gen : Nat} {z : Value} {cells new : List AV} {x : AV} (h1 : tslice P sT = some e) (h2 : tsz P e = some size) (h3 : tz P e = some z) (h4 : tbytes P e = some bytes)
  (h5 : (tsrc P xT && (decide (bytes ≤ 2097152) && decide (z.cells.size = size))) = true) (h6 : srcT g size x = some (k, new)) (h7 : 0 < k) (h8 : cells.length = len * size) (h9 : len + k ≤ 2097152) (h10 : g id = some (.row gen)) (h11 : new.all AV.one = true) :
  appT P false g n sT xT (.sl len cells (.own id gen size)) x = some (.sl (len + k) (cells ++ new) (.own id (gen + 1) size), .set id (.row (gen + 1))) := by
 unfold appT
 simp only [h1, h2, h3, h4, h5, h6, h10, h11, if_true]
 rw [if_neg (by omega), if_pos ⟨h8, h9⟩, if_pos ⟨trivial, trivial, trivial⟩]
theorem ex_app {x : Option (AV × Dl)} {K : DR → Prop} (v : AV) (d : Dl) (h : x = some (v, d)) (k : K (.val v d)) : Ex (x.map fun p => DR.val p.1 p.2) K :=
 ⟨_, by rw [h]; rfl, k⟩
theorem CallG.bool {P : Program} {f : FuncId} {args : List AV} {t : Trie Blk} {n : Nat} {K Kp : AV → Trie Blk → Nat → Nat → Prop} {p : Prop} [Decidable p] (h : ∀ H, ACall P f args H (.ret (.lit (.bool (decide p)))) H)
  (k1 : p → K (.lit (.bool true)) t n noLo) (k2 : ¬ p → K (.lit (.bool false)) t n noLo) : CallG P f args t n K Kp := by
 by_cases hp : p
 ·rw [decide_eq_true hp] at h; exact .pure _ h (k1 hp)
 ·rw [decide_eq_false hp] at h; exact .pure _ h (k2 hp)
theorem FinG.bool {P : Program} {rs : List ResultVar} {e : ES} {p : Prop} [Decidable p] {b : Bool} (h : resT P (get e.t) e.vars rs = some [.lit (.bool b)]) (hd : e.defs = []) (hb : p ↔ b = true) : FinG P rs e (.lit (.bool (decide p))) := by
 refine ⟨_, h, hd, ?_⟩
 show AV.lit (.bool b) = _
 cases b with
 | true => rw [decide_eq_true (hb.2 rfl)]
 | false => rw [decide_eq_false (fun x => by cases hb.1 x)]
theorem FinG.yes {P : Program} {rs : List ResultVar} {e : ES} {p : Prop} [Decidable p] (h : resT P (get e.t) e.vars rs = some [.lit (.bool true)]) (hd : e.defs = []) (hb : p) : FinG P rs e (.lit (.bool (decide p))) := .bool h hd ⟨fun _ => rfl, fun _ => hb⟩
theorem FinG.no {P : Program} {rs : List ResultVar} {e : ES} {p : Prop} [Decidable p] (h : resT P (get e.t) e.vars rs = some [.lit (.bool false)]) (hd : e.defs = []) (hb : ¬ p) : FinG P rs e (.lit (.bool (decide p))) := .bool h hd ⟨fun x => absurd x hb, fun x => by cases x⟩
theorem Weak.of_eq {t : Trie Blk} {v v' : AV} (h : v = v') : Weak t v v' := h ▸ Weak.refl t v
theorem at_ints {P : Program} {t : TypeId} (hu : P.underlying t = some (.slice 3)) (hs : tsz P 3 = some 1) {l : List Int} {tl : Tail} {i : Int} {r : Nat} (hi : i = r) (h : r < l.length) : indexOp P t (.sl l.length (l.map n') tl) (.lit (.int .i64 i)) = some (.eptr [n' l[r]]) := by
 subst hi
 refine (indexOp_sl hu hs ⟨by omega, by omega, by rw [List.length_map]; omega, by omega⟩).trans ?_
 rw [Int.toNat_natCast]
 exact congrArg (fun x => some (AV.eptr x)) (map_at (List.getElem?_eq_getElem _))
end Go.Vm

namespace Go.Vm
open Go.Proofs
theorem ix_ints {l : List Int} {tl : Tail} {i : Int} {r : Nat} (hi : i = r) (h : r < l.length) : indexOp Tryz.prog 30 (.sl l.length (l.map n') tl) (.lit (.int .i64 i)) = some (.eptr [n' l[r]]) :=
 at_ints (by kernel_rfl) (by kernel_rfl) hi h
theorem ix_one {α : Type} {P : Program} {t e : TypeId} {f : α → AV} (hu : P.underlying t = some (.slice e)) (hs : tsz P e = some 1) {l : List α} {tl : Tail} {i : Int} {r : Nat} (hi : i = r) (h : r < l.length) : indexOp P t (.sl l.length (l.map f) tl) (.lit (.int .i64 i)) = some (.eptr [f l[r]]) := by
 subst hi
 refine (indexOp_sl hu hs ⟨by omega, by omega, by rw [List.length_map]; omega, by omega⟩).trans ?_
 rw [Int.toNat_natCast]
 exact congrArg (fun x => some (AV.eptr x)) (map_at (List.getElem?_eq_getElem _))
theorem ix_versions {l : List Vers} {tl : Tail} {i : Int} {r : Nat} (hi : i = r) (h : r < l.length) : indexOp Tryz.prog 50 (.sl l.length (l.map eStates) tl) (.lit (.int .i64 i)) = some (.eptr [eStates l[r]]) :=
 ix_one (e := 48) (by kernel_rfl) (by kernel_rfl) hi h
theorem ix_states {l : Vers} {tl : Tail} {i : Int} {r : Nat} (hi : i = r) (h : r < l.length) : indexOp Tryz.prog 46 (.sl l.length (l.map eState) tl) (.lit (.int .i64 i)) = some (.eptr [eState l[r]]) :=
 ix_one (e := 65) (by kernel_rfl) (by kernel_rfl) hi h
theorem ix_moves {l : List Move} {tl : Tail} {i : Int} {r : Nat} (hi : i = r) (h : r < l.length) : indexOp Tryz.prog 65 (.sl l.length (l.flatMap eMove) tl) (.lit (.int .i64 i)) = some (.eptr (eMove l[r])) := by
 subst hi
 refine (indexOp_sl (elem := 67) (n := 2) (by kernel_rfl) (by kernel_rfl) ⟨by omega, by omega, by rw [flat_length, Int.toNat_natCast]; omega, by omega⟩).trans ?_
 rw [Int.toNat_natCast, flat_at (List.getElem?_eq_getElem h)]
theorem flat2_at {α : Type} {f : α → List AV} (hf : ∀ a, (f a).length = 2) : ∀ {s : List α} {j : Nat} {m : α}, s[j]? = some m → ((s.flatMap f).drop (j * 2)).take 2 = f m
 | [], _, _, h => by simp at h
 | m :: s, 0, m', h => by
  simp at h; subst h
  rw [List.flatMap_cons, Nat.zero_mul, List.drop_zero, List.take_append_of_le_length (by rw [hf]; omega), List.take_of_length_le (by rw [hf]; omega)]
 | m :: s, j + 1, m', h => by
  rw [List.flatMap_cons, List.drop_append, List.drop_eq_nil_of_le (by rw [hf]; omega), hf, List.nil_append]
  have e : (j + 1) * 2 - 2 = j * 2 := by omega
  rw [e]
  exact flat2_at hf (by simpa using h)
theorem take_snoc {α : Type} {l : List α} {r : Nat} (h : r < l.length) : l.take (r + 1) = l.take r ++ [l[r]] := by
 rw [List.take_add_one, List.getElem?_eq_getElem h]; rfl
theorem all_snoc {α : Type} {l : List α} {p : α → Prop} {r : Nat} (h : r < l.length) (hI : ∀ x ∈ l.take r, p x) (hp : p l[r]) : ∀ x ∈ l.take (r + 1), p x := by
 intro x hx
 rw [take_snoc h] at hx
 rcases List.mem_append.1 hx with hx | hx
 ·exact hI x hx
 ·rw [List.mem_singleton] at hx; subst hx; exact hp
theorem all_end {α : Type} {l : List α} {p : α → Prop} {r : Nat} (h : l.length ≤ r) (hI : ∀ x ∈ l.take r, p x) : ∀ x ∈ l, p x := by
 rwa [List.take_of_length_le h] at hI
def inI (a b c : Int) : Prop := b ≤ a ∧ a ≤ c
instance (a b c : Int) : Decidable (inI a b c) := by unfold inI; infer_instance
def StOk (b : Book) (v : Vers) (s : List Move) : Prop := (s.length : Int) = b.cues ∧ ∀ m ∈ s, inI m.1 0 (v.length - 1) ∧ inI m.2 0 (b.tunes - 1)
def VOk (b : Book) (v : Vers) : Prop := (∀ s ∈ v, StOk b v s) ∧ inI v.length 1 4
def BOk (b : Book) : Prop := (inI b.cues 1 4 ∧ inI b.tunes 1 6 ∧ inI b.vs.length 1 4) ∧ ∀ v ∈ b.vs, VOk b v
def LCues (b : Book) (l : List Int) : Prop := ∀ c ∈ l, inI c 0 (b.cues - 1)
def LList (b : Book) (l : List Int) : Prop := (l.length : Int) ≤ 8 ∧ LCues b l
def LTunes (b : Book) (l : List Int) : Prop := (∀ c ∈ l, c ≠ -1 → inI c 0 (b.tunes - 1)) ∧ (l.length : Int) ≤ 8
def EvOk (b : Book) (e : Evening) : Prop := (LList b e.1 ∧ LTunes b e.2) ∧ (e.1.length : Int) = e.2.length
def EvsOk (b : Book) (l : List Evening) : Prop := (∀ e ∈ l, EvOk b e) ∧ (l.length : Int) ≤ 4
instance (b : Book) (v : Vers) (s : List Move) : Decidable (StOk b v s) := by unfold StOk; infer_instance
instance (b : Book) (v : Vers) : Decidable (VOk b v) := by unfold VOk; infer_instance
instance (b : Book) : Decidable (BOk b) := by unfold BOk; infer_instance
instance (b : Book) (l : List Int) : Decidable (LCues b l) := by unfold LCues; infer_instance
instance (b : Book) (l : List Int) : Decidable (LList b l) := by unfold LList; infer_instance
instance (b : Book) (l : List Int) : Decidable (LTunes b l) := by unfold LTunes; infer_instance
instance (b : Book) (e : Evening) : Decidable (EvOk b e) := by unfold EvOk; infer_instance
instance (b : Book) (l : List Evening) : Decidable (EvsOk b l) := by unfold EvsOk; infer_instance
def BFit (b : Book) : Prop := -9223372036854775808 < b.cues ∧ b.cues < 9223372036854775808 ∧ -9223372036854775808 < b.tunes ∧ b.tunes < 9223372036854775808 ∧ b.vs.length < 4611686018427387904
def bBox (b : Book) : Blk := .box [n' b.cues, n' b.tunes, eVersions b.vs] 52
theorem bBox_under (n : Nat) (b : Book) : (bBox b).under n := under_eBook n b
def sameS (a b : List Int) (r : Nat) : List (Nat × AV) := [(0, eInts a), (1, eInts b), (5, n' r)]
set_option maxRecDepth 100000 in
theorem c_same (a b : List Int) (ha : a.length < 9223372036854775808) (H : List Blk) : ACall Tryz.prog 9 [eInts a, eInts b] H (.ret (.lit (.bool (decide (a = b))))) H := by
 refine fn_rule (m := false) (fn := Tryz.f9) (c := (Tryz.f9.body).getD .skip) mixed (by kernel_rfl) (by kernel_rfl) (of_decide_eq_true (by kernel_rfl)) ?_ ?_ ?_ H
 ·exact ⟨under_eInts 0 _, under_eInts 0 _, trivial⟩
 ·trivial
 ·refine If.mk (fun h => ?_) (fun h => ?_)
  ·refine ifN ?_
   have hl : a.length = b.length := by omega
   refine LoopG.at (n0 := 0) rfl (loop_up mixed (m := false) (sameS a b) (fun _ => []) (fun r => a.take r = b.take r) a.length 0 (Nat.zero_le _) rfl ?_ trivial ?_)
   ·exact ⟨⟨_, rfl, Weak.refl _ _, under_eInts _ _⟩, ⟨_, rfl, Weak.refl _ _, under_eInts _ _⟩, wp rfl trivial, trivial⟩
   ·intro r hr hI
    refine If.mk (fun h1 => ?_) (fun h1 => ?_)
    ·refine ifY ?_
     refine Ex.mk _ (ix_ints (r := r) rfl (by omega)) ?_
     refine Ex.mk _ rfl ?_
     refine Ex.mk _ (ix_ints (r := r) rfl (by omega)) ?_
     refine Ex.mk _ rfl ?_
     refine If.mk (fun h2 => ?_) (fun h2 => ?_)
     ·refine ifN ?_
      refine Side.mk (fits64 (by omega)) ?_
      refine ⟨Nat.zero_le _, rfl, by omega, ?_, ⟨⟨_, rfl, Weak.refl _ _, under_eInts _ _⟩, ⟨_, rfl, Weak.refl _ _, under_eInts _ _⟩, wp rfl trivial, trivial⟩, trivial, trivial⟩
      show a.take (r + 1) = b.take (r + 1)
      rw [take_snoc (by omega), take_snoc (by omega), hI, h2]
     ·refine ifY ?_
      refine ⟨Nat.zero_le _, .inl rfl, FinG.no rfl rfl ?_⟩
      rintro rfl; exact h2 rfl
    ·refine ifN ?_
     have e : r = a.length := by omega
     subst e
     refine ⟨Nat.zero_le _, .inl rfl, FinG.yes rfl rfl ?_⟩
     rw [List.take_length, hl, List.take_length] at hI
     exact hI
  ·refine ifY ?_
   refine ⟨.inl rfl, FinG.no rfl rfl ?_⟩
   rintro rfl; exact h rfl
set_option maxRecDepth 100000 in
theorem c_rin (a b c : Int) (H : List Blk) : ACall Tryz.prog 55 [n' a, n' b, n' c] H (.ret (.lit (.bool (decide (inI a b c))))) H := by
 refine fn_rule (m := false) (fn := Tryz.f55) (c := (Tryz.f55.body).getD .skip) mixed (by kernel_rfl) (by kernel_rfl) (of_decide_eq_true (by kernel_rfl)) ?_ ?_ ?_ H
 ·exact ⟨trivial, trivial, trivial, trivial⟩
 ·trivial
 ·refine If.mk (fun h => ?_) (fun h => ?_)
  ·refine If.mk (fun h2 => ?_) (fun h2 => ?_)
   ·exact ⟨.inl rfl, FinG.yes rfl rfl (⟨h, h2⟩)⟩
   ·exact ⟨.inl rfl, FinG.no rfl rfl (fun e => h2 e.2)⟩
  ·exact ⟨.inl rfl, FinG.no rfl rfl (fun e => h e.1)⟩
set_option maxRecDepth 100000 in
theorem c_cue {b : Book} (hb : BFit b) (n : Int) (H : List Blk) : ACall Tryz.prog 18 [eBook b, n' n] H (.ret (.lit (.bool (decide (inI n 0 (b.cues - 1)))))) H := by
 obtain ⟨hb1, hb2, hb3, hb4, hb5⟩ := hb
 refine fn_rule (m := false) (fn := Tryz.f18) (c := (Tryz.f18.body).getD .skip) mixed (by kernel_rfl) (by kernel_rfl) (of_decide_eq_true (by kernel_rfl)) ?_ ?_ ?_ H
 ·exact ⟨under_eBook 0 _, trivial, trivial⟩
 ·trivial
 ·refine Side.mk (fits64 (by omega)) ?_
  refine CallG.pure _ (c_rin _ _ _) ?_
  exact ⟨.inl rfl, FinG.mk _ rfl rfl rfl⟩
end Go.Vm

namespace Go.Vm
open Go.Proofs
def idxOf {α : Type} (p : α → Prop) [DecidablePred p] : List α → Int
 | [] => -1
 | x :: l => if p x then 0 else if 0 ≤ idxOf p l then idxOf p l + 1 else -1
theorem idx_nonneg {α : Type} {p : α → Prop} [DecidablePred p] : ∀ {l : List α}, 0 ≤ idxOf p l ↔ ∃ x ∈ l, p x
 | [] => by simp [idxOf]
 | x :: l => by
  have ih := idx_nonneg (p := p) (l := l)
  unfold idxOf
  by_cases h : p x
  ·rw [if_pos h]
   exact ⟨fun _ => ⟨x, List.mem_cons_self, h⟩, fun _ => by omega⟩
  ·rw [if_neg h]
   by_cases h2 : 0 ≤ idxOf p l
   ·rw [if_pos h2]
    obtain ⟨y, hy, hp⟩ := ih.1 h2
    exact ⟨fun _ => ⟨y, List.mem_cons_of_mem _ hy, hp⟩, fun _ => by omega⟩
   ·rw [if_neg h2]
    refine ⟨fun x => by omega, fun ⟨y, hy, hp⟩ => ?_⟩
    rcases List.mem_cons.1 hy with rfl | hy
    ·exact absurd hp h
    ·exact absurd (ih.2 ⟨y, hy, hp⟩) h2
theorem idx_miss {α : Type} {p : α → Prop} [DecidablePred p] : ∀ {l : List α}, (∀ x ∈ l, ¬ p x) → idxOf p l = -1
 | [], _ => rfl
 | x :: l, h => by
  have ih := idx_miss (p := p) (l := l) (fun y hy => h y (List.mem_cons_of_mem _ hy))
  unfold idxOf
  rw [if_neg (h x List.mem_cons_self), if_neg (by omega)]
theorem idx_hit {α : Type} {p : α → Prop} [DecidablePred p] : ∀ {l : List α} {r : Nat} (hr : r < l.length), (∀ x ∈ l.take r, ¬ p x) → p l[r] → idxOf p l = r
 | [], r, hr, _, _ => by simp at hr
 | x :: l, 0, _, _, hp => by
  unfold idxOf
  have hp' : p x := hp
  rw [if_pos hp']; rfl
 | x :: l, r + 1, hr, h, hp => by
  have hr' : r < l.length := by simpa using hr
  have ih := idx_hit (p := p) (l := l) hr' (fun y hy => h y (by rw [List.take_succ_cons]; exact List.mem_cons_of_mem _ hy)) hp
  have hx : ¬ p x := h x (by rw [List.take_succ_cons]; exact List.mem_cons_self)
  unfold idxOf
  rw [if_neg hx, ih, if_pos (by omega)]
  omega
def eMoveA (m : Move) : AV := .agg (eMove m)
def clo (f : FuncId) (caps : List AV) : AV := .fn (.func f) [] caps
set_option maxRecDepth 100000 in
theorem c_indexV {L0 : List (Nat × Blk)} {n0 : Nat} (hn : n0 ≤ noLo) (hL0 : Blks (get (ofL L0)) n0 L0) (fc : FuncId) (caps : List AV) (hcaps : AV.unders n0 caps) (p : Vers → Prop) [DecidablePred p] (l : List (Vers)) (hl : l.length < 4611686018427387904) (hcal : callable Tryz.prog fc = true)
  (hf : ∀ x ∈ l, ∀ H, HT (ofL L0) n0 H → ACall Tryz.prog fc (eVersion x :: caps) H (.ret (.lit (.bool (decide (p x))))) H) (H : List Blk) (hH : HT (ofL L0) n0 H) : ACall Tryz.prog 156 [eVersions l, clo fc caps] H (.ret (n' (idxOf p l))) H := by
 refine fn_at (m := false) (fn := Tryz.f156) (c := (Tryz.f156.body).getD .skip) mixed (by kernel_rfl) (by kernel_rfl) (of_decide_eq_true (by kernel_rfl)) rfl ?_ H hH
 refine loop_up mixed (m := false) (fun r => [(0, eVersions l), (1, clo fc caps), (7, n' l.length), (8, n' r)]) (fun _ => L0) (fun r => ∀ x ∈ l.take r, ¬ p x) l.length noLo (leb rfl) (fun _ h => by simp at h) ?_ ?_ ?_
 ·exact ⟨⟨_, rfl, Weak.refl _ _, under_eVersions _ _⟩, ⟨_, rfl, Weak.refl _ _, ⟨trivial, by rw [AV.unders_mem] at hcaps ⊢; exact fun a ha => AV.under_mono hn a (hcaps a ha)⟩⟩, wp rfl trivial, wp rfl trivial, trivial⟩
 ·exact hL0.mono hn
 ·intro r hr hI
  refine If.mk (fun h1 => ?_) (fun h1 => ?_)
  ·refine ifY ?_
   refine Ex.mk _ (ix_versions (r := r) rfl (by omega)) ?_
   refine Ex.mk _ rfl ?_
   have hr' : r < l.length := by omega
   refine bif_mk hcal ?_
   refine CallG.atB (p := p l[r]) (hf _ (List.getElem_mem hr')) (fun h => ?_) (fun h => ?_)
   ·refine ifY ?_
    refine ⟨leb rfl, .inl rfl, hn, FinF.mk _ rfl rfl ?_⟩
    show n' (r : Nat) = _
    rw [idx_hit hr' hI h]
   ·refine ifN ?_
    refine Side.mk (fits64 (by omega)) ?_
    refine ⟨leb rfl, rfl, hr', all_snoc (p := fun x => ¬ p x) hr' hI h, ⟨⟨_, rfl, Weak.refl _ _, under_eVersions _ _⟩, ⟨_, rfl, Weak.refl _ _, ⟨trivial, hcaps⟩⟩, wp rfl trivial, wp rfl trivial, trivial⟩, hL0, ?_⟩
    rw [show n0 - noLo = 0 by omega]
    exact trivial
  ·refine ifN ?_
   refine ⟨leb rfl, .inl rfl, hn, FinF.mk _ rfl rfl ?_⟩
   show n' (-1) = _
   rw [idx_miss (all_end (p := fun x => ¬ p x) (by omega) hI)]
set_option maxRecDepth 100000 in
theorem c_containsV {L0 : List (Nat × Blk)} {n0 : Nat} (hn : n0 ≤ noLo) (hL0 : Blks (get (ofL L0)) n0 L0) (fc : FuncId) (caps : List AV) (hcaps : AV.unders n0 caps) (p : Vers → Prop) [DecidablePred p] (l : List (Vers)) (hl : l.length < 4611686018427387904) (hcal : callable Tryz.prog fc = true)
  (hf : ∀ x ∈ l, ∀ H, HT (ofL L0) n0 H → ACall Tryz.prog fc (eVersion x :: caps) H (.ret (.lit (.bool (decide (p x))))) H) (H : List Blk) (hH : HT (ofL L0) n0 H) : ACall Tryz.prog 104 [eVersions l, clo fc caps] H (.ret (.lit (.bool (decide (∃ x ∈ l, p x))))) H := by
 refine fn_at (m := false) (fn := Tryz.f104) (c := (Tryz.f104.body).getD .skip) mixed (by kernel_rfl) (by kernel_rfl) (of_decide_eq_true (by kernel_rfl)) rfl ?_ H hH
 refine CallG.at _ (c_indexV hn hL0 fc caps hcaps p l hl hcal hf) ?_
 refine If.mk (fun h1 => ?_) (fun h1 => ?_)
 ·refine ⟨.inl rfl, hn, FinF.bool rfl rfl ⟨fun _ => rfl, fun _ => idx_nonneg.1 h1⟩⟩
 ·refine ⟨.inl rfl, hn, FinF.bool rfl rfl ⟨fun x => absurd (idx_nonneg.2 x) h1, fun x => by cases x⟩⟩
set_option maxRecDepth 100000 in
theorem c_indexS {L0 : List (Nat × Blk)} {n0 : Nat} (hn : n0 ≤ noLo) (hL0 : Blks (get (ofL L0)) n0 L0) (fc : FuncId) (caps : List AV) (hcaps : AV.unders n0 caps) (p : List Move → Prop) [DecidablePred p] (l : List (List Move)) (hl : l.length < 4611686018427387904) (hcal : callable Tryz.prog fc = true)
  (hf : ∀ x ∈ l, ∀ H, HT (ofL L0) n0 H → ACall Tryz.prog fc (eState x :: caps) H (.ret (.lit (.bool (decide (p x))))) H) (H : List Blk) (hH : HT (ofL L0) n0 H) : ACall Tryz.prog 187 [eStates l, clo fc caps] H (.ret (n' (idxOf p l))) H := by
 refine fn_at (m := false) (fn := Tryz.f187) (c := (Tryz.f187.body).getD .skip) mixed (by kernel_rfl) (by kernel_rfl) (of_decide_eq_true (by kernel_rfl)) rfl ?_ H hH
 refine loop_up mixed (m := false) (fun r => [(0, eStates l), (1, clo fc caps), (7, n' l.length), (8, n' r)]) (fun _ => L0) (fun r => ∀ x ∈ l.take r, ¬ p x) l.length noLo (leb rfl) (fun _ h => by simp at h) ?_ ?_ ?_
 ·exact ⟨⟨_, rfl, Weak.refl _ _, under_states _ _⟩, ⟨_, rfl, Weak.refl _ _, ⟨trivial, by rw [AV.unders_mem] at hcaps ⊢; exact fun a ha => AV.under_mono hn a (hcaps a ha)⟩⟩, wp rfl trivial, wp rfl trivial, trivial⟩
 ·exact hL0.mono hn
 ·intro r hr hI
  refine If.mk (fun h1 => ?_) (fun h1 => ?_)
  ·refine ifY ?_
   refine Ex.mk _ (ix_states (r := r) rfl (by omega)) ?_
   refine Ex.mk _ rfl ?_
   have hr' : r < l.length := by omega
   refine bif_mk hcal ?_
   refine CallG.atB (p := p l[r]) (hf _ (List.getElem_mem hr')) (fun h => ?_) (fun h => ?_)
   ·refine ifY ?_
    refine ⟨leb rfl, .inl rfl, hn, FinF.mk _ rfl rfl ?_⟩
    show n' (r : Nat) = _
    rw [idx_hit hr' hI h]
   ·refine ifN ?_
    refine Side.mk (fits64 (by omega)) ?_
    refine ⟨leb rfl, rfl, hr', all_snoc (p := fun x => ¬ p x) hr' hI h, ⟨⟨_, rfl, Weak.refl _ _, under_states _ _⟩, ⟨_, rfl, Weak.refl _ _, ⟨trivial, hcaps⟩⟩, wp rfl trivial, wp rfl trivial, trivial⟩, hL0, ?_⟩
    rw [show n0 - noLo = 0 by omega]
    exact trivial
  ·refine ifN ?_
   refine ⟨leb rfl, .inl rfl, hn, FinF.mk _ rfl rfl ?_⟩
   show n' (-1) = _
   rw [idx_miss (all_end (p := fun x => ¬ p x) (by omega) hI)]
set_option maxRecDepth 100000 in
theorem c_containsS {L0 : List (Nat × Blk)} {n0 : Nat} (hn : n0 ≤ noLo) (hL0 : Blks (get (ofL L0)) n0 L0) (fc : FuncId) (caps : List AV) (hcaps : AV.unders n0 caps) (p : List Move → Prop) [DecidablePred p] (l : List (List Move)) (hl : l.length < 4611686018427387904) (hcal : callable Tryz.prog fc = true)
  (hf : ∀ x ∈ l, ∀ H, HT (ofL L0) n0 H → ACall Tryz.prog fc (eState x :: caps) H (.ret (.lit (.bool (decide (p x))))) H) (H : List Blk) (hH : HT (ofL L0) n0 H) : ACall Tryz.prog 157 [eStates l, clo fc caps] H (.ret (.lit (.bool (decide (∃ x ∈ l, p x))))) H := by
 refine fn_at (m := false) (fn := Tryz.f157) (c := (Tryz.f157.body).getD .skip) mixed (by kernel_rfl) (by kernel_rfl) (of_decide_eq_true (by kernel_rfl)) rfl ?_ H hH
 refine CallG.at _ (c_indexS hn hL0 fc caps hcaps p l hl hcal hf) ?_
 refine If.mk (fun h1 => ?_) (fun h1 => ?_)
 ·refine ⟨.inl rfl, hn, FinF.bool rfl rfl ⟨fun _ => rfl, fun _ => idx_nonneg.1 h1⟩⟩
 ·refine ⟨.inl rfl, hn, FinF.bool rfl rfl ⟨fun x => absurd (idx_nonneg.2 x) h1, fun x => by cases x⟩⟩
set_option maxRecDepth 100000 in
theorem c_indexM {L0 : List (Nat × Blk)} {n0 : Nat} (hn : n0 ≤ noLo) (hL0 : Blks (get (ofL L0)) n0 L0) (fc : FuncId) (caps : List AV) (hcaps : AV.unders n0 caps) (p : Move → Prop) [DecidablePred p] (l : List (Move)) (hl : l.length < 4611686018427387904) (hcal : callable Tryz.prog fc = true)
  (hf : ∀ x ∈ l, ∀ H, HT (ofL L0) n0 H → ACall Tryz.prog fc (eMoveA x :: caps) H (.ret (.lit (.bool (decide (p x))))) H) (H : List Blk) (hH : HT (ofL L0) n0 H) : ACall Tryz.prog 188 [eState l, clo fc caps] H (.ret (n' (idxOf p l))) H := by
 refine fn_at (m := false) (fn := Tryz.f188) (c := (Tryz.f188.body).getD .skip) mixed (by kernel_rfl) (by kernel_rfl) (of_decide_eq_true (by kernel_rfl)) rfl ?_ H hH
 refine loop_up mixed (m := false) (fun r => [(0, eState l), (1, clo fc caps), (7, n' l.length), (8, n' r)]) (fun _ => L0) (fun r => ∀ x ∈ l.take r, ¬ p x) l.length noLo (leb rfl) (fun _ h => by simp at h) ?_ ?_ ?_
 ·exact ⟨⟨_, rfl, Weak.refl _ _, under_state _ _⟩, ⟨_, rfl, Weak.refl _ _, ⟨trivial, by rw [AV.unders_mem] at hcaps ⊢; exact fun a ha => AV.under_mono hn a (hcaps a ha)⟩⟩, wp rfl trivial, wp rfl trivial, trivial⟩
 ·exact hL0.mono hn
 ·intro r hr hI
  refine If.mk (fun h1 => ?_) (fun h1 => ?_)
  ·refine ifY ?_
   refine Ex.mk _ (ix_moves (r := r) rfl (by omega)) ?_
   refine Ex.mk _ rfl ?_
   have hr' : r < l.length := by omega
   refine bif_mk hcal ?_
   refine CallG.atB (p := p l[r]) (hf _ (List.getElem_mem hr')) (fun h => ?_) (fun h => ?_)
   ·refine ifY ?_
    refine ⟨leb rfl, .inl rfl, hn, FinF.mk _ rfl rfl ?_⟩
    show n' (r : Nat) = _
    rw [idx_hit hr' hI h]
   ·refine ifN ?_
    refine Side.mk (fits64 (by omega)) ?_
    refine ⟨leb rfl, rfl, hr', all_snoc (p := fun x => ¬ p x) hr' hI h, ⟨⟨_, rfl, Weak.refl _ _, under_state _ _⟩, ⟨_, rfl, Weak.refl _ _, ⟨trivial, hcaps⟩⟩, wp rfl trivial, wp rfl trivial, trivial⟩, hL0, ?_⟩
    rw [show n0 - noLo = 0 by omega]
    exact trivial
  ·refine ifN ?_
   refine ⟨leb rfl, .inl rfl, hn, FinF.mk _ rfl rfl ?_⟩
   show n' (-1) = _
   rw [idx_miss (all_end (p := fun x => ¬ p x) (by omega) hI)]
set_option maxRecDepth 100000 in
theorem c_containsM {L0 : List (Nat × Blk)} {n0 : Nat} (hn : n0 ≤ noLo) (hL0 : Blks (get (ofL L0)) n0 L0) (fc : FuncId) (caps : List AV) (hcaps : AV.unders n0 caps) (p : Move → Prop) [DecidablePred p] (l : List (Move)) (hl : l.length < 4611686018427387904) (hcal : callable Tryz.prog fc = true)
  (hf : ∀ x ∈ l, ∀ H, HT (ofL L0) n0 H → ACall Tryz.prog fc (eMoveA x :: caps) H (.ret (.lit (.bool (decide (p x))))) H) (H : List Blk) (hH : HT (ofL L0) n0 H) : ACall Tryz.prog 159 [eState l, clo fc caps] H (.ret (.lit (.bool (decide (∃ x ∈ l, p x))))) H := by
 refine fn_at (m := false) (fn := Tryz.f159) (c := (Tryz.f159.body).getD .skip) mixed (by kernel_rfl) (by kernel_rfl) (of_decide_eq_true (by kernel_rfl)) rfl ?_ H hH
 refine CallG.at _ (c_indexM hn hL0 fc caps hcaps p l hl hcal hf) ?_
 refine If.mk (fun h1 => ?_) (fun h1 => ?_)
 ·refine ⟨.inl rfl, hn, FinF.bool rfl rfl ⟨fun _ => rfl, fun _ => idx_nonneg.1 h1⟩⟩
 ·refine ⟨.inl rfl, hn, FinF.bool rfl rfl ⟨fun x => absurd (idx_nonneg.2 x) h1, fun x => by cases x⟩⟩
end Go.Vm

namespace Go.Vm
open Go.Proofs
def vBox (v : Vers) : Blk := .box [eStates v] 48
theorem vBox_under (n : Nat) (v : Vers) : (vBox v).under n := under_eVersion n v
end Go.Vm

namespace Go.Vm
open Go.Proofs
def BLen (b : Book) : Prop := b.vs.length < 4611686018427387904 ∧ ∀ v ∈ b.vs, v.length < 4611686018427387904 ∧ ∀ s ∈ v, s.length < 4611686018427387904
def ShortV (v : Vers) : Prop := (∀ s ∈ v, (s.length : Int) ≤ 6) ∧ (v.length : Int) ≤ 6
def Short (b : Book) : Prop := (∀ v ∈ b.vs, ShortV v) ∧ (b.vs.length : Int) ≤ 6
instance (v : Vers) : Decidable (ShortV v) := by unfold ShortV; infer_instance
instance (b : Book) : Decidable (Short b) := by unfold Short; infer_instance
def Slim (e : Evening) : Prop := (e.1.length : Int) ≤ 10 ∧ (e.2.length : Int) ≤ 10
def Brief (l : List Evening) : Prop := (∀ e ∈ l, Slim e) ∧ (l.length : Int) ≤ 6
instance (e : Evening) : Decidable (Slim e) := by unfold Slim; infer_instance
instance (l : List Evening) : Decidable (Brief l) := by unfold Brief; infer_instance
def Right (b : Book) (l : List Evening) : Prop := ((Short b ∧ Brief l) ∧ BOk b) ∧ EvsOk b l
instance (b : Book) (l : List Evening) : Decidable (Right b l) := by unfold Right; infer_instance
theorem BOk.fit {b : Book} (h : BOk b) : BFit b := by
 obtain ⟨⟨⟨a1, a2⟩, ⟨a3, a4⟩, ⟨a5, a6⟩⟩, _⟩ := h
 unfold BFit
 omega
end Go.Vm

namespace Go.Vm
open Go.Proofs
theorem HT.one (B : Blk) : HT (ofL [(0, B)]) 1 [B] := ⟨rfl, fun id B' h => by
 have := get_ofL h
 simp at this
 obtain ⟨rfl, rfl⟩ := this
 rfl⟩
theorem HT.two (B B' : Blk) : HT (ofL [(0, B), (1, B')]) 2 [B, B'] := ⟨rfl, fun id X h => by
 have := get_ofL h
 simp at this
 rcases this with ⟨rfl, rfl⟩ | ⟨rfl, rfl⟩ <;> rfl⟩
def bvL (b : Book) (v : Vers) : List (Nat × Blk) := [(0, bBox b), (1, vBox v)]
theorem bvL_ok (b : Book) (v : Vers) {n0 : Nat} (h : 2 ≤ n0) : Blks (get (ofL (bvL b v))) n0 (bvL b v) := ⟨⟨rfl, (show 0 < n0 by omega)⟩, ⟨rfl, (show 1 < n0 by omega)⟩, trivial⟩
def bL (b : Book) : List (Nat × Blk) := [(0, bBox b)]
theorem bL_ok (b : Book) {n0 : Nat} (h : 1 ≤ n0) : Blks (get (ofL (bL b))) n0 (bL b) := ⟨⟨rfl, (show 0 < n0 by omega)⟩, trivial⟩
def MvOk (b : Book) (v : Vers) (m : Move) : Prop := inI m.1 0 (v.length - 1) ∧ inI m.2 0 (b.tunes - 1)
instance (b : Book) (v : Vers) (m : Move) : Decidable (MvOk b v m) := by unfold MvOk; infer_instance
set_option maxRecDepth 100000 in
theorem c_195 {b : Book} {v : Vers} (hb : BFit b) (hv : v.length < 4611686018427387904) (m : Move) (H2 : List Blk) : ACall Tryz.prog 160 [eMoveA m, .ptr 1 0, .ptr 0 0] ([bBox b, vBox v] ++ H2) (.ret (.lit (.bool (decide (¬ MvOk b v m))))) ([bBox b, vBox v] ++ H2) := by
 obtain ⟨hb1, hb2, hb3, hb4, hb5⟩ := hb
 refine fn_pre (m := false) (fn := Tryz.f160) (c := (Tryz.f160.body).getD .skip) mixed (by kernel_rfl) (by kernel_rfl) (of_decide_eq_true (by kernel_rfl)) (HT.two _ _) ?_ ?_ rfl ?_ H2
 ·exact ⟨⟨trivial, trivial, trivial⟩, ltb rfl, ltb rfl, trivial⟩
 ·intro B hB
  simp at hB
  rcases hB with rfl | rfl
  ·exact bBox_under _ _
  ·exact vBox_under _ _
 ·refine Side.mk (fits64 (by omega)) ?_
  refine CallG.bool (c_in _ _ _) (fun h => ?_) (fun h => ?_)
  ·refine Side.mk (fits64 (by omega)) ?_
   refine CallG.bool (c_in _ _ _) (fun h2 => ?_) (fun h2 => ?_)
   ·exact ⟨.inl rfl, leb rfl, FinF.bool rfl rfl ⟨fun x => absurd ⟨h, h2⟩ x, fun x => by cases x⟩⟩
   ·exact ⟨.inl rfl, leb rfl, FinF.bool rfl rfl ⟨fun _ => rfl, fun _ x => h2 x.2⟩⟩
  ·exact ⟨.inl rfl, leb rfl, FinF.bool rfl rfl ⟨fun _ => rfl, fun _ x => h x.1⟩⟩
theorem not_ex {α : Type} {l : List α} {p : α → Prop} [DecidablePred p] : (¬ ∃ x ∈ l, ¬ p x) ↔ ∀ x ∈ l, p x :=
 ⟨fun h x hx => Decidable.byContradiction fun hn => h ⟨x, hx, hn⟩, fun h ⟨x, hx, hn⟩ => hn (h x hx)⟩
set_option maxRecDepth 100000 in
theorem c_193 {b : Book} {v : Vers} (hb : BFit b) (hv : v.length < 4611686018427387904) {n0 : Nat} (hn : n0 ≤ noLo) (hn2 : 2 ≤ n0) (s : List Move) (hs : s.length < 4611686018427387904) (H : List Blk) (hH : HT (ofL (bvL b v)) n0 H) :
  ACall Tryz.prog 158 [eState s, .ptr 0 0, .ptr 1 0] H (.ret (.lit (.bool (decide (¬ StOk b v s))))) H := by
 refine fn_at (m := false) (fn := Tryz.f158) (c := (Tryz.f158.body).getD .skip) mixed (by kernel_rfl) (by kernel_rfl) (of_decide_eq_true (by kernel_rfl)) rfl ?_ H hH
 refine If.mk (fun h1 => ?_) (fun h1 => ?_)
 ·refine CallG.atB (p := ∃ m ∈ s, ¬ MvOk b v m) (c_containsM hn (bvL_ok b v hn2) 160 [.ptr 1 0, .ptr 0 0] ⟨(show 1 < n0 by omega), (show 0 < n0 by omega), trivial⟩ (fun m => ¬ MvOk b v m) s hs rfl (fun m _ H hH => ?_)) (fun h => ?_) (fun h => ?_)
  ·obtain ⟨H2, rfl⟩ := hH.first2 rfl rfl
   exact c_195 hb hv m H2
  ·refine ⟨.inl rfl, hn, FinF.bool rfl rfl ⟨fun _ => rfl, fun _ x => ?_⟩⟩
   obtain ⟨m, hm, hx⟩ := h
   exact hx (x.2 m hm)
  ·refine ⟨.inl rfl, hn, FinF.bool rfl rfl ⟨fun x => absurd ⟨h1, fun m hm => ?_⟩ x, fun x => by cases x⟩⟩
   exact not_ex.1 h m hm
 ·exact ⟨.inl rfl, hn, FinF.bool rfl rfl ⟨fun _ => rfl, fun _ x => h1 x.1⟩⟩
set_option maxRecDepth 100000 in
theorem c_isVersion {b : Book} (hb : BFit b) (v : Vers) (hv : v.length < 4611686018427387904) (hv2 : ∀ s ∈ v, s.length < 4611686018427387904) (H : List Blk) : ACall Tryz.prog 106 [eBook b, eVersion v] H (.ret (.lit (.bool (decide (VOk b v))))) H := by
 refine fn_rule (m := false) (fn := Tryz.f106) (c := (Tryz.f106.body).getD .skip) mixed (by kernel_rfl) (by kernel_rfl) (of_decide_eq_true (by kernel_rfl)) ?_ ?_ ?_ H
 ·exact ⟨under_eBook 0 _, under_eVersion 0 _, trivial⟩
 ·trivial
 ·refine CallG.bool (c_in _ _ _) (fun h => ?_) (fun h => ?_)
  ·refine CallG.atB (p := ∃ s ∈ v, ¬ StOk b v s) (fun H hH => c_containsS (n0 := 2) (leb rfl) (bvL_ok b v (leb rfl)) 158 [.ptr 0 0, .ptr 1 0] ⟨ltb rfl, ltb rfl, trivial⟩ (fun s => ¬ StOk b v s) v hv rfl (fun s hs H hH => c_193 hb hv (leb rfl) (leb rfl) s (hv2 s hs) H hH) H (hH.sub ⟨bk rfl rfl, bk rfl rfl, trivial⟩)) (fun h2 => ?_) (fun h2 => ?_)
   ·exact ⟨.inl rfl, FinG.no rfl rfl (fun x => by obtain ⟨s, hs, hx⟩ := h2; exact hx (x.1 s hs))⟩
   ·exact ⟨.inl rfl, FinG.yes rfl rfl (⟨not_ex.1 h2, h⟩)⟩
  ·exact ⟨.inl rfl, FinG.no rfl rfl (fun x => h x.2)⟩
set_option maxRecDepth 100000 in
theorem c_151 {b : Book} (hb : BFit b) (v : Vers) (hv : v.length < 4611686018427387904) (hv2 : ∀ s ∈ v, s.length < 4611686018427387904) (H2 : List Blk) : ACall Tryz.prog 105 [eVersion v, .ptr 0 0] ([bBox b] ++ H2) (.ret (.lit (.bool (decide (¬ VOk b v))))) ([bBox b] ++ H2) := by
 refine fn_pre (m := false) (fn := Tryz.f105) (c := (Tryz.f105.body).getD .skip) mixed (by kernel_rfl) (by kernel_rfl) (of_decide_eq_true (by kernel_rfl)) (HT.one _) ?_ ?_ rfl ?_ H2
 ·exact ⟨under_eVersion _ _, ltb rfl, trivial⟩
 ·intro B hB
  simp at hB
  subst hB
  exact bBox_under _ _
 ·refine CallG.bool (c_isVersion hb v hv hv2) (fun h => ?_) (fun h => ?_)
  ·exact ⟨.inl rfl, leb rfl, FinF.bool rfl rfl ⟨fun x => absurd h x, fun x => by cases x⟩⟩
  ·exact ⟨.inl rfl, leb rfl, FinF.bool rfl rfl ⟨fun _ => rfl, fun _ => h⟩⟩
set_option maxRecDepth 100000 in
theorem c_isBook {b : Book} (hl : BLen b) (H : List Blk) : ACall Tryz.prog 51 [eBook b] H (.ret (.lit (.bool (decide (BOk b))))) H := by
 refine fn_rule (m := false) (fn := Tryz.f51) (c := (Tryz.f51.body).getD .skip) mixed (by kernel_rfl) (by kernel_rfl) (of_decide_eq_true (by kernel_rfl)) ?_ ?_ ?_ H
 ·exact ⟨under_eBook 0 _, trivial⟩
 ·trivial
 ·refine CallG.bool (c_in _ _ _) (fun h => ?_) (fun h => ?_)
  ·refine CallG.bool (c_in _ _ _) (fun h2 => ?_) (fun h2 => ?_)
   ·refine CallG.bool (c_in _ _ _) (fun h3 => ?_) (fun h3 => ?_)
    ·have hf : BFit b := by
      have := hl.1
      unfold BFit
      omega
     refine CallG.atB (p := ∃ v ∈ b.vs, ¬ VOk b v) (fun H hH => c_containsV (n0 := 1) (leb rfl) (bL_ok b (leb rfl)) 105 [.ptr 0 0] ⟨ltb rfl, trivial⟩ (fun v => ¬ VOk b v) b.vs hl.1 rfl (fun v hv H hH => ?_) H (hH.sub ⟨bk rfl rfl, trivial⟩)) (fun h4 => ?_) (fun h4 => ?_)
     ·obtain ⟨H2, rfl⟩ := hH.first rfl
      exact c_151 hf v (hl.2 v hv).1 (hl.2 v hv).2 H2
     ·exact ⟨.inl rfl, FinG.no rfl rfl (fun x => by obtain ⟨s, hs, hx⟩ := h4; exact hx (x.2 s hs))⟩
     ·exact ⟨.inl rfl, FinG.yes rfl rfl (⟨⟨h, h2, h3⟩, not_ex.1 h4⟩)⟩
    ·exact ⟨.inl rfl, FinG.no rfl rfl (fun x => h3 x.1.2.2)⟩
   ·exact ⟨.inl rfl, FinG.no rfl rfl (fun x => h2 x.1.2.1)⟩
  ·exact ⟨.inl rfl, FinG.no rfl rfl (fun x => h x.1.1)⟩
set_option maxRecDepth 100000 in
theorem c_hasVersion {b : Book} (hb : BFit b) (n : Int) (H : List Blk) : ACall Tryz.prog 52 [eBook b, n' n] H (.ret (.lit (.bool (decide (inI n 0 (b.vs.length - 1)))))) H := by
 obtain ⟨hb1, hb2, hb3, hb4, hb5⟩ := hb
 refine fn_rule (m := false) (fn := Tryz.f52) (c := (Tryz.f52.body).getD .skip) mixed (by kernel_rfl) (by kernel_rfl) (of_decide_eq_true (by kernel_rfl)) ?_ ?_ ?_ H
 ·exact ⟨under_eBook 0 _, trivial, trivial⟩
 ·trivial
 ·refine Side.mk (fits64 (by omega)) ?_
  refine CallG.bool (c_in _ _ _) (fun h => ?_) (fun h => ?_)
  ·exact ⟨.inl rfl, FinG.yes rfl rfl (h)⟩
  ·exact ⟨.inl rfl, FinG.no rfl rfl (h)⟩
end Go.Vm

namespace Go.Vm
open Go.Proofs
theorem jx_ints {l : List Int} {tl : Tail} {i : Int} {r : Nat} {x : Int} (hi : i = r) (h : l[r]? = some x) : indexOp Tryz.prog 30 (.sl l.length (l.map n') tl) (.lit (.int .i64 i)) = some (.eptr [n' x]) := by
 obtain ⟨h1, rfl⟩ := List.getElem?_eq_some_iff.1 h
 exact ix_ints hi h1
theorem jx_versions {l : List Vers} {tl : Tail} {i : Int} {r : Nat} {x : Vers} (hi : i = r) (h : l[r]? = some x) : indexOp Tryz.prog 50 (.sl l.length (l.map eStates) tl) (.lit (.int .i64 i)) = some (.eptr [eStates x]) := by
 obtain ⟨h1, rfl⟩ := List.getElem?_eq_some_iff.1 h
 exact ix_versions hi h1
theorem freezes_ints (g : Nat → Option Blk) (l : List Int) : AV.freezes g (l.map n') = l.map n' := freezes_map (fun _ => rfl) l
theorem app_int {g : Nat → Option Blk} {n len id gen : Nat} {cells : List AV} {a : Int} (h1 : cells.length = len) (h2 : len < 2097152) (hg : g id = some (.row gen)) :
  appT Tryz.prog false g n 30 30 (.sl len cells (.own id gen 1)) (.sl 1 [n' a] .full) = some (.sl (len + 1) (cells ++ [n' a]) (.own id (gen + 1) 1), .set id (.row (gen + 1))) :=
 appT_own (e := 3) (bytes := 8) (z := .int .i64 0) (by kernel_rfl) (by kernel_rfl) (by kernel_rfl) (by kernel_rfl) (by kernel_rfl) rfl (by omega) (by omega) (by omega) hg rfl
theorem at_some {α : Type} {l : List α} {r : Nat} (h : r < l.length) : ∃ x, l[r]? = some x ∧ l.take (r + 1) = l.take r ++ [x] ∧ x ∈ l :=
 ⟨l[r], List.getElem?_eq_getElem h, take_snoc h, List.getElem_mem h⟩
end Go.Vm

namespace Go.Vm
open Go.Proofs
theorem VOk.vers {b : Book} {v : Vers} (h : VOk b v) : VersOk v b.cues.toNat ∧ 0 < v.length := by
 obtain ⟨h1, h2, h3⟩ := h
 refine ⟨fun s hs => ?_, by omega⟩
 obtain ⟨h4, h5⟩ := h1 s hs
 refine ⟨by omega, fun m hm => ?_⟩
 obtain ⟨⟨h6, h7⟩, _⟩ := h5 m hm
 omega
end Go.Vm

namespace Go.Vm
open Go.Proofs
theorem app_move {g : Nat → Option Blk} {n len id gen : Nat} {cells : List AV} {a b : Int} (h1 : cells.length = len * 2) (h2 : len < 2097152) (hg : g id = some (.row gen)) :
  appT Tryz.prog false g n 65 65 (.sl len cells (.own id gen 2)) (.sl 1 [n' a, n' b] .full) = some (.sl (len + 1) (cells ++ [n' a, n' b]) (.own id (gen + 1) 2), .set id (.row (gen + 1))) :=
 appT_own (e := 67) (bytes := 16) (z := .agg #[.int .i64 0, .int .i64 0]) (by kernel_rfl) (by kernel_rfl) (by kernel_rfl) (by kernel_rfl) (by kernel_rfl) rfl (by omega) h1 (by omega) hg rfl
theorem app_state {g : Nat → Option Blk} {n len id gen : Nat} {cells : List AV} {s : List Move} (h1 : cells.length = len) (h2 : len < 2097152) (hg : g id = some (.row gen)) :
  appT Tryz.prog false g n 46 46 (.sl len cells (.own id gen 1)) (.sl 1 [eState s] .full) = some (.sl (len + 1) (cells ++ [eState s]) (.own id (gen + 1) 1), .set id (.row (gen + 1))) :=
 appT_own (e := 65) (bytes := 24) (z := .slice none 0 0) (by kernel_rfl) (by kernel_rfl) (by kernel_rfl) (by kernel_rfl) (by kernel_rfl) rfl (by omega) (by omega) (by omega) hg rfl
end Go.Vm

namespace Go.Vm
open Go.Proofs
theorem src_ints (g : Nat → Option Blk) (l : List Int) : srcT g 1 (eInts l) = some (l.length, l.map n') := by
 show (if (l.map n').length = l.length * 1 then some (l.length, l.map n') else none) = _
 rw [if_pos (by rw [List.length_map, Nat.mul_one])]
theorem wk_nil (H : List Blk) : WeakH H (.lit (.slice none 0 0)) (eInts []) := WeakH.nil H
theorem wk_agg {H : List Blk} {l l' : List AV} (h : Weaks l l') : WeakH H (.agg l) (.agg l') := fun _ _ _ _ x => by
 simp only [VRel] at x ⊢
 obtain ⟨C, hc, hr⟩ := x
 exact ⟨C, hc, h.rel hr⟩
end Go.Vm

namespace Go.Vm
open Go.Proofs
set_option maxRecDepth 100000 in
theorem c_hasTune {b : Book} (hb : BFit b) (n : Int) (H : List Blk) : ACall Tryz.prog 53 [eBook b, n' n] H (.ret (.lit (.bool (decide (inI n 0 (b.tunes - 1)))))) H := by
 obtain ⟨hb1, hb2, hb3, hb4, hb5⟩ := hb
 refine fn_rule (m := false) (fn := Tryz.f53) (c := (Tryz.f53.body).getD .skip) mixed (by kernel_rfl) (by kernel_rfl) (of_decide_eq_true (by kernel_rfl)) ?_ ?_ ?_ H
 ·exact ⟨under_eBook 0 _, trivial, trivial⟩
 ·trivial
 ·refine Side.mk (fits64 (by omega)) ?_
  refine CallG.bool (c_in _ _ _) (fun h => ?_) (fun h => ?_)
  ·exact ⟨.inl rfl, FinG.yes rfl rfl (h)⟩
  ·exact ⟨.inl rfl, FinG.no rfl rfl (h)⟩
def TuneP (b : Book) (c : Int) : Prop := c ≠ -1 → inI c 0 (b.tunes - 1)
instance (b : Book) (c : Int) : Decidable (TuneP b c) := by unfold TuneP; infer_instance
def Noted (t h : List Int) : Prop := ∀ i, i < h.length → 0 ≤ h.getD i 0 → t.getD i 0 = h.getD i 0
instance (t h : List Int) : Decidable (Noted t h) := by unfold Noted; infer_instance
def Agrees (v : Vers) (evs : List Evening) : Prop := ∀ e ∈ evs, Noted (plays v 0 e.1) e.2
instance (v : Vers) (evs : List Evening) : Decidable (Agrees v evs) := by unfold Agrees; infer_instance
def Listed (l : List Int) (n : Int) : Prop := n ∈ l
instance (l : List Int) (n : Int) : Decidable (Listed l n) := by unfold Listed; infer_instance
end Go.Vm

namespace Go.Vm
open Go.Proofs
def VersL (b : Book) (l : List Int) : Prop := ∀ r, r < l.length → inI (l.getD r 0) 0 (b.vs.length - 1) ∧ (0 < r → l.getD (r - 1) 0 < l.getD r 0)
instance (b : Book) (l : List Int) : Decidable (VersL b l) := by unfold VersL; infer_instance
theorem appT_full {P : Program} {g : Nat → Option Blk} {n sT xT e size bytes len k : Nat} {z : Value} {cells new : List AV} {x : AV} (h1 : tslice P sT = some e) (h2 : tsz P e = some size) (h3 : tz P e = some z) (h4 : tbytes P e = some bytes)
  (h5 : (tsrc P xT && (decide (bytes ≤ 2097152) && decide (z.cells.size = size))) = true) (h6 : srcT g size x = some (k, new)) (h7 : 0 < k) (h8 : cells.length = len * size) (h9 : len + k ≤ 2097152) :
  appT P false g n sT xT (.sl len cells .full) x = some (.sl (len + k) (cells ++ new) (.own n 0 size), .push (.row 0)) := by
 unfold appT
 simp only [h1, h2, h3, h4, h5, h6, if_true]
 rw [if_neg (by omega), if_pos ⟨h8, h9⟩]
 rfl
theorem ACall.empty {P : Program} {f : FuncId} {H H' : List Blk} {r : AEnd} (h : ∀ b cap, ACall P f [.lit (.slice b 0 cap)] H r H') : ACall P f [.sl 0 [] .unk] H r H' := by
 intro O ι w cs hR hargs
 obtain ⟨l⟩ := cs
 match l, hargs with
 | [], x => simp [VRels] at x
 | _ :: _ :: _, x => simp [VRels] at x
 | [c], x =>
  simp only [VRels, VRel, and_true] at x
  obtain ⟨base, cap, rfl, _, _⟩ := x
  exact h base cap O ι w _ hR (by simp [VRels, VRel])
theorem ACall.more {P : Program} {f : FuncId} {args : List AV} {H H' : List Blk} {v v' : AV} (h : ACall P f args H (.ret v) H') (B : Blk) (hw : WeakH (H' ++ [.row 0]) v v') (hB : B = .row 0) : ACall P f args H (.ret v') (H' ++ [B]) := by
 subst hB
 intro O ι w cs hR hargs
 refine (h O ι w cs hR hargs).mono ?_
 rintro e w' ⟨ι', hend, hR', hev, hnon⟩
 cases e with
 | panicked chain => exact hend.elim
 | outgrown => exact hend.elim
 | returned c =>
  have hend' : VRel ⟨H', ι', w'⟩ v c := hend
  have hev2 : Ev ⟨H', ι', w'⟩ ⟨H' ++ [.row 0], ι', w'⟩ := Ev.fresh hR' (w' := w') (H2 := [.row 0]) (fun _ _ => rfl) ⟨rfl, rfl⟩
  have hR2 : Rel ⟨H' ++ [.row 0], ι', w'⟩ := Rel.fresh hR' (w' := w') (H2 := [.row 0]) (fun _ _ => rfl) ⟨rfl, rfl⟩
  exact ⟨ι', hw O ι' w' c (hend'.ev hev2), hR2, hev.trans hev2, fun id hn hx => hnon id hn hx⟩
theorem WeakH.own {H : List Blk} {r : Nat} (sz : Nat) (hr : H[r]? = some (.row 0)) : WeakH H (.lit (.slice none 0 0)) (.sl 0 [] (.own r 0 sz)) := fun _ _ _ _ h => by
 simp only [VRel] at h ⊢
 exact ⟨none, 0, h, Nat.le_refl _, .inl trivial, by simp, 0, hr, Nat.le_refl _, fun _ => .inl rfl⟩
theorem WeakH.fullOwn {H : List Blk} {r : Nat} (sz : Nat) (hr : H[r]? = some (.row 0)) : WeakH H (.sl 0 [] .full) (.sl 0 [] (.own r 0 sz)) := fun _ _ _ _ h => by
 simp only [VRel] at h ⊢
 obtain ⟨base, cap, hc, hle, hcells, ht⟩ := h
 exact ⟨base, cap, hc, hle, hcells, by simp, 0, hr, Nat.le_refl _, fun _ => .inl ht⟩
end Go.Vm

namespace Go.Vm
open Go.Proofs
def eLists (l : List (List Int)) : AV := .sl l.length (l.map eInts) .unk
theorem under_eLists (n : Nat) (l : List (List Int)) : (eLists l).under n := by
 unfold eLists
 simp only [AV.under]
 exact ⟨unders_map (under_eInts n) l, trivial⟩
theorem jx_lists {l : List (List Int)} {tl : Tail} {i : Int} {r : Nat} {x : List Int} (hi : i = r) (h : l[r]? = some x) : indexOp Tryz.prog 38 (.sl l.length (l.map eInts) tl) (.lit (.int .i64 i)) = some (.eptr [eInts x]) := by
 obtain ⟨h1, rfl⟩ := List.getElem?_eq_some_iff.1 h
 exact ix_one (e := 30) (by kernel_rfl) (by kernel_rfl) hi h1
end Go.Vm

namespace Go.Vm
open Go.Proofs
structure LimbD where
 par : Int
 len : Int
 low : Int
 high : Int
 wear : Int
def figK (st : Int) (a b : LimbD) : List AV := [n' st, .sl 2 [n' a.par, n' a.len, n' a.low, n' a.high, n' a.wear, n' b.par, n' b.len, n' b.low, n' b.high, n' b.wear] .unk]
def eFig (st : Int) (a b : LimbD) : AV := .agg (figK st a b)
theorem under_eFig (n : Nat) (st : Int) (a b : LimbD) : (eFig st a b).under n := ⟨trivial, ⟨⟨trivial, trivial, trivial, trivial, trivial, trivial, trivial, trivial, trivial, trivial, trivial⟩, trivial⟩, trivial⟩
structure FieldD where
 xl : Int
 xh : Int
 yl : Int
 yh : Int
def eField (x : FieldD) : AV := .agg [n' x.xl, n' x.xh, n' x.yl, n' x.yh]
def stageC (e h0 h1 : FieldD) (r0 r1 : Int) : List AV := [n' e.xl, n' e.xh, n' e.yl, n' e.yh, .sl 2 [n' h0.xl, n' h0.xh, n' h0.yl, n' h0.yh, n' h1.xl, n' h1.xh, n' h1.yl, n' h1.yh] .unk, .sl 2 [n' r0, n' r1] .unk]
def eStage (e h0 h1 : FieldD) (r0 r1 : Int) : AV := .agg (stageC e h0 h1 r0 r1)
theorem under_eStage (n : Nat) (e h0 h1 : FieldD) (r0 r1 : Int) : (eStage e h0 h1 r0 r1).under n := ⟨trivial, trivial, trivial, trivial, ⟨⟨trivial, trivial, trivial, trivial, trivial, trivial, trivial, trivial, trivial⟩, trivial⟩, ⟨⟨trivial, trivial, trivial⟩, trivial⟩, trivial⟩
def limbOk (x : LimbD) (n : Int) : Prop := (-1 ≤ x.par ∧ x.par ≤ n - 1) ∧ (1 ≤ x.len ∧ x.len ≤ 20) ∧ (-4 ≤ x.low ∧ x.low ≤ 4) ∧ (x.low ≤ x.high ∧ x.high ≤ 4) ∧ (0 ≤ x.wear ∧ x.wear ≤ 2)
def figOk (st : Int) (a b : LimbD) : Prop := (0 ≤ st ∧ st ≤ 7) ∧ limbOk a 0 ∧ limbOk b 1
def poseOk (a b : LimbD) (p q : Int) : Prop := (a.low ≤ p ∧ p ≤ a.high) ∧ (b.low ≤ q ∧ q ≤ b.high)
def fieldOk (x : FieldD) : Prop := (-1000 ≤ x.xl ∧ x.xl ≤ 1000) ∧ (x.xl ≤ x.xh ∧ x.xh ≤ 1000) ∧ (-1000 ≤ x.yl ∧ x.yl ≤ 1000) ∧ (x.yl ≤ x.yh ∧ x.yh ≤ 1000)
def stageOk (e h0 h1 : FieldD) (r0 r1 : Int) : Prop := fieldOk e ∧ fieldOk h0 ∧ fieldOk h1 ∧ (0 ≤ r0 ∧ r0 ≤ 1) ∧ (0 ≤ r1 ∧ r1 ≤ 1) ∧ r0 ≠ r1
instance (x : LimbD) (n : Int) : Decidable (limbOk x n) := by unfold limbOk; infer_instance
instance (st : Int) (a b : LimbD) : Decidable (figOk st a b) := by unfold figOk; infer_instance
instance (a b : LimbD) (p q : Int) : Decidable (poseOk a b p q) := by unfold poseOk; infer_instance
instance (x : FieldD) : Decidable (fieldOk x) := by unfold fieldOk; infer_instance
instance (e h0 h1 : FieldD) (r0 r1 : Int) : Decidable (stageOk e h0 h1 r0 r1) := by unfold stageOk; infer_instance
set_option maxRecDepth 100000 in
theorem c_rin2 (a b c : Int) (H : List Blk) : ACall Tryz.prog 36 [n' a, n' b, n' c] H (.ret (.lit (.bool (decide (b ≤ a ∧ a ≤ c))))) H := by
 refine fn_rule (m := false) (fn := Tryz.f36) (c := (Tryz.f36.body).getD .skip) mixed (by kernel_rfl) (by kernel_rfl) (of_decide_eq_true (by kernel_rfl)) ?_ ?_ ?_ H
 ·exact ⟨trivial, trivial, trivial, trivial⟩
 ·exact trivial
 ·refine If.mk (fun h => ?_) (fun h => ?_)
  ·refine If.mk (fun h2 => ?_) (fun h2 => ?_)
   ·exact ⟨.inl rfl, FinG.yes rfl rfl (⟨h, h2⟩)⟩
   ·exact ⟨.inl rfl, FinG.no rfl rfl (fun e => h2 e.2)⟩
  ·exact ⟨.inl rfl, FinG.no rfl rfl (fun e => h e.1)⟩
set_option maxRecDepth 100000 in
theorem c_field (x : FieldD) (H : List Blk) : ACall Tryz.prog 37 [eField x] H (.ret (.lit (.bool (decide (fieldOk x))))) H := by
 refine fn_rule (m := false) (fn := Tryz.f37) (c := (Tryz.f37.body).getD .skip) mixed (by kernel_rfl) (by kernel_rfl) (of_decide_eq_true (by kernel_rfl)) ?_ ?_ ?_ H
 ·exact ⟨⟨trivial, trivial, trivial, trivial, trivial⟩, trivial⟩
 ·exact trivial
 ·refine CallG.bool (c_rin2 x.xl (-1000) 1000) (fun h1 => ?_) (fun h => ?_)
  rotate_left
  ·exact ⟨.inl rfl, FinG.no rfl rfl (fun e => h e.1)⟩
  refine CallG.bool (c_rin2 x.xh x.xl 1000) (fun h2 => ?_) (fun h => ?_)
  rotate_left
  ·exact ⟨.inl rfl, FinG.no rfl rfl (fun e => h e.2.1)⟩
  refine CallG.bool (c_rin2 x.yl (-1000) 1000) (fun h3 => ?_) (fun h => ?_)
  rotate_left
  ·exact ⟨.inl rfl, FinG.no rfl rfl (fun e => h e.2.2.1)⟩
  refine CallG.bool (c_rin2 x.yh x.yl 1000) (fun h4 => ?_) (fun h => ?_)
  rotate_left
  ·exact ⟨.inl rfl, FinG.no rfl rfl (fun e => h e.2.2.2)⟩
  exact ⟨.inl rfl, FinG.yes rfl rfl (⟨h1, h2, h3, h4⟩)⟩
set_option maxRecDepth 100000 in
theorem c_limb (st : Int) (a b : LimbD) (n : Int) (H : List Blk) : ACall Tryz.prog 38 [eFig st a b, n' n] H (.ret (.lit (.bool (decide (0 ≤ n ∧ n ≤ 1))))) H := by
 refine fn_rule (m := false) (fn := Tryz.f38) (c := (Tryz.f38.body).getD .skip) mixed (by kernel_rfl) (by kernel_rfl) (of_decide_eq_true (by kernel_rfl)) ?_ ?_ ?_ H
 ·exact ⟨under_eFig _ _ _ _, trivial, trivial⟩
 ·exact trivial
 ·refine Side.mk (by unfold fitsK; kernel_rfl) ?_
  refine CallG.bool (c_rin2 n 0 1) (fun h => ?_) (fun h => ?_)
  ·exact ⟨.inl rfl, FinG.yes rfl rfl (h)⟩
  ·exact ⟨.inl rfl, FinG.no rfl rfl (h)⟩
def eP (p q : Int) : AV := .sl 2 [n' p, n' q] .unk
theorem under_eP (n : Nat) (p q : Int) : (eP p q).under n := ⟨⟨trivial, trivial, trivial⟩, trivial⟩
set_option maxRecDepth 100000 in
theorem c_pose (st : Int) (a b : LimbD) (p q : Int) (H : List Blk) : ACall Tryz.prog 8 [eFig st a b, eP p q] H (.ret (.lit (.bool (decide (poseOk a b p q))))) H := by
 refine fn_rule (m := false) (fn := Tryz.f8) (c := (Tryz.f8.body).getD .skip) mixed (by kernel_rfl) (by kernel_rfl) (of_decide_eq_true (by kernel_rfl)) ?_ ?_ ?_ H
 ·exact ⟨under_eFig _ _ _ _, under_eP _ _ _, trivial⟩
 ·exact trivial
 ·refine If.mk (fun _ => ?_) (fun h => absurd (by decide) h)
  refine ifN ?_
  refine LoopG.round mixed (m := false) ?_
  refine If.mk (fun _ => ?_) (fun h => absurd (by decide) h)
  refine ifY ?_
  refine Ex.mk _ rfl ?_
  refine Ex.mk _ rfl ?_
  refine Ex.mk _ rfl ?_
  refine Ex.mk _ rfl ?_
  refine Ex.mk _ rfl ?_
  refine Ex.mk _ rfl ?_
  refine CallG.bool (c_rin2 p a.low a.high) (fun h1 => ?_) (fun h => ?_)
  rotate_left
  ·refine ifY ?_
   exact ⟨.inl rfl, FinG.no rfl rfl (fun e => h e.1)⟩
  refine ifN ?_
  refine Side.mk (by unfold fitsK; kernel_rfl) ?_
  refine LoopG.round mixed (m := false) ?_
  refine If.mk (fun _ => ?_) (fun h => absurd (by decide) h)
  refine ifY ?_
  refine Ex.mk _ rfl ?_
  refine Ex.mk _ rfl ?_
  refine Ex.mk _ rfl ?_
  refine Ex.mk _ rfl ?_
  refine Ex.mk _ rfl ?_
  refine Ex.mk _ rfl ?_
  refine CallG.bool (c_rin2 q b.low b.high) (fun h2 => ?_) (fun h => ?_)
  rotate_left
  ·refine ifY ?_
   exact ⟨.inl rfl, FinG.no rfl rfl (fun e => h e.2)⟩
  refine ifN ?_
  refine Side.mk (by unfold fitsK; kernel_rfl) ?_
  refine LoopG.round mixed (m := false) ?_
  refine If.mk (fun h => absurd h (by decide)) (fun _ => ?_)
  refine ifN ?_
  exact ⟨.inl rfl, FinG.yes rfl rfl (⟨h1, h2⟩)⟩
set_option maxRecDepth 100000 in
theorem c_poseBad (st : Int) (a b : LimbD) (l : List Int) (hl : l.length ≠ 2) (H : List Blk) : ACall Tryz.prog 8 [eFig st a b, eInts l] H (.ret (.lit (.bool false))) H := by
 refine fn_rule (m := false) (fn := Tryz.f8) (c := (Tryz.f8.body).getD .skip) mixed (by kernel_rfl) (by kernel_rfl) (of_decide_eq_true (by kernel_rfl)) ?_ ?_ ?_ H
 ·exact ⟨under_eFig _ _ _ _, under_eInts _ _, trivial⟩
 ·exact trivial
 ·refine If.mk (fun h => ?_) (fun _ => ?_)
  ·exact absurd h (by omega)
  refine ifY ?_
  exact ⟨.inl rfl, FinG.mk _ rfl rfl rfl⟩
set_option maxRecDepth 100000 in
theorem c_stageR (st : Int) (a b : LimbD) (e h0 h1 : FieldD) (r0 r1 : Int) (H : List Blk) : ACall Tryz.prog 7 [eFig st a b, eStage e h0 h1 r0 r1] H (.ret (.lit (.bool (decide (stageOk e h0 h1 r0 r1))))) H := by
 refine fn_rule (m := false) (fn := Tryz.f7) (c := (Tryz.f7.body).getD .skip) mixed (by kernel_rfl) (by kernel_rfl) (of_decide_eq_true (by kernel_rfl)) ?_ ?_ ?_ H
 ·exact ⟨under_eFig _ _ _ _, under_eStage _ _ _ _ _ _, trivial⟩
 ·exact trivial
 ·refine If.mk (fun _ => ?_) (fun h => absurd (by decide) h)
  refine If.mk (fun _ => ?_) (fun h => absurd (by decide) h)
  refine ifN ?_
  refine CallG.bool (c_field e) (fun k1 => ?_) (fun h => ?_)
  rotate_left
  ·exact ⟨.inl rfl, FinG.no rfl rfl (fun z => h z.1)⟩
  refine Ex.mk _ rfl ?_
  refine Ex.mk _ rfl ?_
  refine CallG.bool (c_field h0) (fun k2 => ?_) (fun h => ?_)
  rotate_left
  ·exact ⟨.inl rfl, FinG.no rfl rfl (fun z => h z.2.1)⟩
  refine Ex.mk _ rfl ?_
  refine Ex.mk _ rfl ?_
  refine CallG.bool (c_field h1) (fun k3 => ?_) (fun h => ?_)
  rotate_left
  ·exact ⟨.inl rfl, FinG.no rfl rfl (fun z => h z.2.2.1)⟩
  refine Ex.mk _ rfl ?_
  refine Ex.mk _ rfl ?_
  refine CallG.bool (c_limb st a b r0) (fun k4 => ?_) (fun h => ?_)
  rotate_left
  ·exact ⟨.inl rfl, FinG.no rfl rfl (fun z => h z.2.2.2.1)⟩
  refine Ex.mk _ rfl ?_
  refine Ex.mk _ rfl ?_
  refine CallG.bool (c_limb st a b r1) (fun k5 => ?_) (fun h => ?_)
  rotate_left
  ·exact ⟨.inl rfl, FinG.no rfl rfl (fun z => h z.2.2.2.2.1)⟩
  refine Ex.mk _ rfl ?_
  refine Ex.mk _ rfl ?_
  refine Ex.mk _ rfl ?_
  refine Ex.mk _ rfl ?_
  refine If.mk (fun k6 => ?_) (fun k6 => ?_)
  ·exact ⟨.inl rfl, FinG.no rfl rfl (fun z => z.2.2.2.2.2 k6)⟩
  ·exact ⟨.inl rfl, FinG.yes rfl rfl (⟨k1, k2, k3, k4, k5, k6⟩)⟩
def fieldC (x : FieldD) : List AV := [n' x.xl, n' x.xh, n' x.yl, n' x.yh]
theorem under_fields (n : Nat) : ∀ l : List FieldD, AV.unders n (l.flatMap fieldC)
 | [] => trivial
 | _ :: l => ⟨trivial, trivial, trivial, trivial, under_fields n l⟩
def eStageL (e : FieldD) (hands : List FieldD) (rods : List Int) : AV := .agg [n' e.xl, n' e.xh, n' e.yl, n' e.yh, .sl hands.length (hands.flatMap fieldC) .unk, eInts rods]
theorem under_eStageL (n : Nat) (e : FieldD) (hands : List FieldD) (rods : List Int) : (eStageL e hands rods).under n := ⟨trivial, trivial, trivial, trivial, ⟨under_fields n _, trivial⟩, under_eInts n _, trivial⟩
set_option maxRecDepth 100000 in
theorem c_stageBad (st : Int) (a b : LimbD) (e : FieldD) (hands : List FieldD) (rods : List Int) (hb : ¬ (hands.length = 2 ∧ rods.length = 2)) (H : List Blk) : ACall Tryz.prog 7 [eFig st a b, eStageL e hands rods] H (.ret (.lit (.bool false))) H := by
 refine fn_rule (m := false) (fn := Tryz.f7) (c := (Tryz.f7.body).getD .skip) mixed (by kernel_rfl) (by kernel_rfl) (of_decide_eq_true (by kernel_rfl)) ?_ ?_ ?_ H
 ·exact ⟨under_eFig _ _ _ _, under_eStageL _ _ _ _, trivial⟩
 ·exact trivial
 ·refine If.mk (fun h => ?_) (fun h => ?_)
  ·refine If.mk (fun h2 => ?_) (fun h2 => ?_)
   ·exact absurd ⟨(by omega), (by omega)⟩ hb
   ·refine ifY ?_
    exact ⟨.inl rfl, FinG.mk _ rfl rfl rfl⟩
  ·refine ifY ?_
   exact ⟨.inl rfl, FinG.mk _ rfl rfl rfl⟩
theorem mul_small {x y : Int} (hx : 0 ≤ x ∧ x ≤ 9) (hy : 0 ≤ y ∧ y ≤ 9) : 0 ≤ x * y ∧ x * y ≤ 81 :=
 ⟨Int.mul_nonneg hx.1 hy.1, Int.le_trans (Int.mul_le_mul hx.2 hy.2 hy.1 (by omega)) (by decide)⟩
set_option maxRecDepth 100000 in
theorem c_figure (st : Int) (a b : LimbD) (H : List Blk) : ACall Tryz.prog 6 [eFig st a b] H (.ret (.lit (.bool (decide (figOk st a b))))) H := by
 refine fn_rule (m := false) (fn := Tryz.f6) (c := (Tryz.f6.body).getD .skip) mixed (by kernel_rfl) (by kernel_rfl) (of_decide_eq_true (by kernel_rfl)) ?_ ?_ ?_ H
 ·exact ⟨under_eFig _ _ _ _, trivial⟩
 ·exact trivial
 ·refine CallG.bool (c_rin2 st 0 7) (fun k0 => ?_) (fun h => ?_)
  rotate_left
  ·refine ifY ?_
   exact ⟨.inl rfl, FinG.no rfl rfl (fun z => h z.1)⟩
  refine CallG.bool (c_rin2 2 1 5) (fun _ => ?_) (fun h => absurd (by decide) h)
  refine ifN ?_
  refine LoopG.round mixed (m := false) ?_
  refine If.mk (fun _ => ?_) (fun h => absurd (by decide) h)
  refine ifY ?_
  refine Ex.mk _ rfl ?_
  refine Ex.mk _ rfl ?_
  refine Side.mk (by unfold fitsK; kernel_rfl) ?_
  refine CallG.bool (c_rin2 a.par (-1) (0 - 1)) (fun m1 => ?_) (fun h => ?_)
  rotate_left
  ·refine ifY ?_
   exact ⟨.inl rfl, FinG.no rfl rfl (fun z => h z.2.1.1)⟩
  refine CallG.bool (c_rin2 a.len 1 20) (fun m2 => ?_) (fun h => ?_)
  rotate_left
  ·refine ifY ?_
   exact ⟨.inl rfl, FinG.no rfl rfl (fun z => h z.2.1.2.1)⟩
  refine CallG.bool (c_rin2 a.low (-4) 4) (fun m3 => ?_) (fun h => ?_)
  rotate_left
  ·refine ifY ?_
   exact ⟨.inl rfl, FinG.no rfl rfl (fun z => h z.2.1.2.2.1)⟩
  refine CallG.bool (c_rin2 a.high a.low 4) (fun m4 => ?_) (fun h => ?_)
  rotate_left
  ·refine ifY ?_
   exact ⟨.inl rfl, FinG.no rfl rfl (fun z => h z.2.1.2.2.2.1)⟩
  refine CallG.bool (c_rin2 a.wear 0 2) (fun m5 => ?_) (fun h => ?_)
  rotate_left
  ·refine ifY ?_
   exact ⟨.inl rfl, FinG.no rfl rfl (fun z => h z.2.1.2.2.2.2)⟩
  refine ifN ?_
  refine Side.mk (fits64 (by omega)) ?_
  refine Side.mk (fits64 (by omega)) ?_
  refine Side.mk (fits64 (by omega)) ?_
  refine Side.mk (by unfold fitsK; kernel_rfl) ?_
  refine LoopG.round mixed (m := false) ?_
  refine If.mk (fun _ => ?_) (fun h => absurd (by decide) h)
  refine ifY ?_
  refine Ex.mk _ rfl ?_
  refine Ex.mk _ rfl ?_
  refine Side.mk (by unfold fitsK; kernel_rfl) ?_
  refine CallG.bool (c_rin2 b.par (-1) (1 - 1)) (fun k1 => ?_) (fun h => ?_)
  rotate_left
  ·refine ifY ?_
   exact ⟨.inl rfl, FinG.no rfl rfl (fun z => h z.2.2.1)⟩
  refine CallG.bool (c_rin2 b.len 1 20) (fun k2 => ?_) (fun h => ?_)
  rotate_left
  ·refine ifY ?_
   exact ⟨.inl rfl, FinG.no rfl rfl (fun z => h z.2.2.2.1)⟩
  refine CallG.bool (c_rin2 b.low (-4) 4) (fun k3 => ?_) (fun h => ?_)
  rotate_left
  ·refine ifY ?_
   exact ⟨.inl rfl, FinG.no rfl rfl (fun z => h z.2.2.2.2.1)⟩
  refine CallG.bool (c_rin2 b.high b.low 4) (fun k4 => ?_) (fun h => ?_)
  rotate_left
  ·refine ifY ?_
   exact ⟨.inl rfl, FinG.no rfl rfl (fun z => h z.2.2.2.2.2.1)⟩
  refine CallG.bool (c_rin2 b.wear 0 2) (fun k5 => ?_) (fun h => ?_)
  rotate_left
  ·refine ifY ?_
   exact ⟨.inl rfl, FinG.no rfl rfl (fun z => h z.2.2.2.2.2.2)⟩
  refine ifN ?_
  refine Side.mk (fits64 (by omega)) ?_
  refine Side.mk (fits64 (by omega)) ?_
  have mm := mul_small (x := 1 * (a.high - a.low + 1)) (y := b.high - b.low + 1) (by omega) (by omega)
  refine Side.mk (fits64 ⟨Int.le_trans (by decide) mm.1, Int.lt_of_le_of_lt mm.2 (by decide)⟩) ?_
  refine Side.mk (by unfold fitsK; kernel_rfl) ?_
  refine LoopG.round mixed (m := false) ?_
  refine If.mk (fun h => absurd h (by decide)) (fun _ => ?_)
  refine ifN ?_
  refine If.mk (fun _ => ?_) (fun h => absurd (Int.le_trans mm.2 (by decide)) h)
  exact ⟨.inl rfl, FinG.yes rfl rfl (⟨k0, ⟨m1, m2, m3, m4, m5⟩, ⟨k1, k2, k3, k4, k5⟩⟩)⟩
set_option maxRecDepth 100000 in
theorem c_jin (a b c : Int) (H : List Blk) : ACall Tryz.prog 93 [n' a, n' b, n' c] H (.ret (.lit (.bool (decide (b ≤ a ∧ a ≤ c))))) H := by
 refine fn_rule (m := false) (fn := Tryz.f93) (c := (Tryz.f93.body).getD .skip) mixed (by kernel_rfl) (by kernel_rfl) (of_decide_eq_true (by kernel_rfl)) ?_ ?_ ?_ H
 ·exact ⟨trivial, trivial, trivial, trivial⟩
 ·exact trivial
 ·refine If.mk (fun h => ?_) (fun h => ?_)
  ·refine If.mk (fun h2 => ?_) (fun h2 => ?_)
   ·exact ⟨.inl rfl, FinG.yes rfl rfl (⟨h, h2⟩)⟩
   ·exact ⟨.inl rfl, FinG.no rfl rfl (fun e => h2 e.2)⟩
  ·exact ⟨.inl rfl, FinG.no rfl rfl (fun e => h e.1)⟩
set_option maxRecDepth 100000 in
theorem c_jlimb {n : Int} {x : LimbD} (hx : limbOk x n) (hn : 0 ≤ n ∧ n ≤ 1) (H : List Blk) : ACall Tryz.prog 94 [n' n, .agg [n' x.par, n' x.len, n' x.low, n' x.high, n' x.wear]] H (.ret (.lit (.bool true))) H := by
 obtain ⟨k1, k2, k3, k4, k5⟩ := hx
 refine fn_rule (m := false) (fn := Tryz.f94) (c := (Tryz.f94.body).getD .skip) mixed (by kernel_rfl) (by kernel_rfl) (of_decide_eq_true (by kernel_rfl)) ?_ ?_ ?_ H
 ·exact ⟨trivial, ⟨trivial, trivial, trivial, trivial, trivial, trivial⟩, trivial⟩
 ·exact trivial
 ·refine Side.mk (fits64 (by omega)) ?_
  refine CallG.bool (c_jin x.par (-1) (n - 1)) (fun _ => ?_) (fun h => absurd k1 h)
  refine CallG.bool (c_jin x.len 1 20) (fun _ => ?_) (fun h => absurd k2 h)
  refine CallG.bool (c_jin x.low (-4) x.high) (fun _ => ?_) (fun h => absurd ⟨k3.1, k4.1⟩ h)
  refine If.mk (fun _ => ?_) (fun h => absurd (k4.2) h)
  refine CallG.bool (c_jin x.wear 0 2) (fun _ => ?_) (fun h => absurd k5 h)
  exact ⟨.inl rfl, FinG.mk _ rfl rfl rfl⟩
set_option maxRecDepth 100000 in
theorem c_jfield {x : FieldD} (hx : fieldOk x) (H : List Blk) : ACall Tryz.prog 95 [eField x] H (.ret (.lit (.bool true))) H := by
 obtain ⟨k1, k2, k3, k4⟩ := hx
 refine fn_rule (m := false) (fn := Tryz.f95) (c := (Tryz.f95.body).getD .skip) mixed (by kernel_rfl) (by kernel_rfl) (of_decide_eq_true (by kernel_rfl)) ?_ ?_ ?_ H
 ·exact ⟨⟨trivial, trivial, trivial, trivial, trivial⟩, trivial⟩
 ·exact trivial
 ·refine CallG.bool (c_jin x.xl (-1000) x.xh) (fun _ => ?_) (fun h => absurd ⟨k1.1, k2.1⟩ h)
  refine If.mk (fun _ => ?_) (fun h => absurd (k2.2) h)
  refine CallG.bool (c_jin x.yl (-1000) x.yh) (fun _ => ?_) (fun h => absurd ⟨k3.1, k4.1⟩ h)
  refine If.mk (fun _ => ?_) (fun h => absurd (k4.2) h)
  exact ⟨.inl rfl, FinG.mk _ rfl rfl rfl⟩
set_option maxRecDepth 100000 in
theorem c_jhas (st : Int) (a b : LimbD) {n : Int} (hn : 0 ≤ n ∧ n ≤ 1) (H : List Blk) : ACall Tryz.prog 96 [eFig st a b, n' n] H (.ret (.lit (.bool true))) H := by
 refine fn_rule (m := false) (fn := Tryz.f96) (c := (Tryz.f96.body).getD .skip) mixed (by kernel_rfl) (by kernel_rfl) (of_decide_eq_true (by kernel_rfl)) ?_ ?_ ?_ H
 ·exact ⟨under_eFig _ _ _ _, trivial, trivial⟩
 ·exact trivial
 ·refine Side.mk (by unfold fitsK; kernel_rfl) ?_
  refine CallG.bool (c_jin n 0 1) (fun _ => ?_) (fun h => absurd hn h)
  exact ⟨.inl rfl, FinG.mk _ rfl rfl rfl⟩
set_option maxRecDepth 100000 in
theorem c_jstage (st : Int) (a b : LimbD) {e h0 h1 : FieldD} {r0 r1 : Int} (h : stageOk e h0 h1 r0 r1) (H : List Blk) : ACall Tryz.prog 44 [eFig st a b, eStage e h0 h1 r0 r1] H (.ret (.lit (.bool true))) H := by
 obtain ⟨k1, k2, k3, k4, k5, k6⟩ := h
 refine fn_rule (m := false) (fn := Tryz.f44) (c := (Tryz.f44.body).getD .skip) mixed (by kernel_rfl) (by kernel_rfl) (of_decide_eq_true (by kernel_rfl)) ?_ ?_ ?_ H
 ·exact ⟨under_eFig _ _ _ _, under_eStage _ _ _ _ _ _, trivial⟩
 ·exact trivial
 ·refine CallG.pure _ (c_jfield k1) ?_
  refine If.mk (fun _ => ?_) (fun h => absurd (by decide) h)
  refine Ex.mk _ rfl ?_
  refine Ex.mk _ rfl ?_
  refine CallG.pure _ (c_jfield k2) ?_
  refine Ex.mk _ rfl ?_
  refine Ex.mk _ rfl ?_
  refine CallG.pure _ (c_jfield k3) ?_
  refine If.mk (fun _ => ?_) (fun h => absurd (by decide) h)
  refine Ex.mk _ rfl ?_
  refine Ex.mk _ rfl ?_
  refine CallG.pure _ (c_jhas st a b k4) ?_
  refine Ex.mk _ rfl ?_
  refine Ex.mk _ rfl ?_
  refine CallG.pure _ (c_jhas st a b k5) ?_
  refine Ex.mk _ rfl ?_
  refine Ex.mk _ rfl ?_
  refine Ex.mk _ rfl ?_
  refine Ex.mk _ rfl ?_
  refine If.mk (fun h => absurd h (k6)) (fun _ => ?_)
  exact ⟨.inl rfl, FinG.mk _ rfl rfl rfl⟩
set_option maxRecDepth 100000 in
theorem c_jpose (st : Int) (a b : LimbD) (p q : Int) (H : List Blk) : ACall Tryz.prog 45 [eFig st a b, eP p q] H (.ret (.lit (.bool (decide (poseOk a b p q))))) H := by
 refine fn_rule (m := false) (fn := Tryz.f45) (c := (Tryz.f45.body).getD .skip) mixed (by kernel_rfl) (by kernel_rfl) (of_decide_eq_true (by kernel_rfl)) ?_ ?_ ?_ H
 ·exact ⟨under_eFig _ _ _ _, under_eP _ _ _, trivial⟩
 ·exact trivial
 ·refine If.mk (fun _ => ?_) (fun h => absurd (by decide) h)
  refine ifN ?_
  refine LoopG.round mixed (m := false) ?_
  refine If.mk (fun _ => ?_) (fun h => absurd (by decide) h)
  refine ifY ?_
  refine Ex.mk _ rfl ?_
  refine Ex.mk _ rfl ?_
  refine Ex.mk _ rfl ?_
  refine Ex.mk _ rfl ?_
  refine Ex.mk _ rfl ?_
  refine Ex.mk _ rfl ?_
  refine CallG.bool (c_jin p a.low a.high) (fun h1 => ?_) (fun h => ?_)
  rotate_left
  ·refine ifY ?_
   exact ⟨.inl rfl, FinG.no rfl rfl (fun e => h e.1)⟩
  refine ifN ?_
  refine Side.mk (by unfold fitsK; kernel_rfl) ?_
  refine LoopG.round mixed (m := false) ?_
  refine If.mk (fun _ => ?_) (fun h => absurd (by decide) h)
  refine ifY ?_
  refine Ex.mk _ rfl ?_
  refine Ex.mk _ rfl ?_
  refine Ex.mk _ rfl ?_
  refine Ex.mk _ rfl ?_
  refine Ex.mk _ rfl ?_
  refine Ex.mk _ rfl ?_
  refine CallG.bool (c_jin q b.low b.high) (fun h2 => ?_) (fun h => ?_)
  rotate_left
  ·refine ifY ?_
   exact ⟨.inl rfl, FinG.no rfl rfl (fun e => h e.2)⟩
  refine ifN ?_
  refine Side.mk (by unfold fitsK; kernel_rfl) ?_
  refine LoopG.round mixed (m := false) ?_
  refine If.mk (fun h => absurd h (by decide)) (fun _ => ?_)
  refine ifN ?_
  exact ⟨.inl rfl, FinG.yes rfl rfl (⟨h1, h2⟩)⟩
set_option maxRecDepth 100000 in
theorem c_jfigure {st : Int} {a b : LimbD} (h : figOk st a b) (H : List Blk) : ACall Tryz.prog 43 [eFig st a b] H (.ret (.lit (.bool true))) H := by
 obtain ⟨k0, ka, kb⟩ := h
 obtain ⟨m1, m2, m3, m4, m5⟩ := id ka
 obtain ⟨k1, k2, k3, k4, k5⟩ := id kb
 refine fn_rule (m := false) (fn := Tryz.f43) (c := (Tryz.f43.body).getD .skip) mixed (by kernel_rfl) (by kernel_rfl) (of_decide_eq_true (by kernel_rfl)) ?_ ?_ ?_ H
 ·exact ⟨under_eFig _ _ _ _, trivial⟩
 ·exact trivial
 ·refine CallG.bool (c_jin st 0 7) (fun _ => ?_) (fun h => absurd k0 h)
  refine CallG.bool (c_jin 2 1 5) (fun _ => ?_) (fun h => absurd (by decide) h)
  refine ifN ?_
  refine LoopG.round mixed (m := false) ?_
  refine If.mk (fun _ => ?_) (fun h => absurd (by decide) h)
  refine ifY ?_
  refine Ex.mk _ rfl ?_
  refine Ex.mk _ rfl ?_
  refine CallG.pure _ (c_jlimb ka (by decide)) ?_
  refine ifN ?_
  refine Side.mk (fits64 (by omega)) ?_
  refine Side.mk (fits64 (by omega)) ?_
  refine Side.mk (fits64 (by omega)) ?_
  refine Side.mk (by unfold fitsK; kernel_rfl) ?_
  refine LoopG.round mixed (m := false) ?_
  refine If.mk (fun _ => ?_) (fun h => absurd (by decide) h)
  refine ifY ?_
  refine Ex.mk _ rfl ?_
  refine Ex.mk _ rfl ?_
  refine CallG.pure _ (c_jlimb kb (by decide)) ?_
  refine ifN ?_
  refine Side.mk (fits64 (by omega)) ?_
  refine Side.mk (fits64 (by omega)) ?_
  have mm := mul_small (x := 1 * (a.high - a.low + 1)) (y := b.high - b.low + 1) (by omega) (by omega)
  refine Side.mk (fits64 ⟨Int.le_trans (by decide) mm.1, Int.lt_of_le_of_lt mm.2 (by decide)⟩) ?_
  refine Side.mk (by unfold fitsK; kernel_rfl) ?_
  refine LoopG.round mixed (m := false) ?_
  refine If.mk (fun h => absurd h (by decide)) (fun _ => ?_)
  refine ifN ?_
  refine If.mk (fun _ => ?_) (fun h => absurd (Int.le_trans mm.2 (by decide)) h)
  exact ⟨.inl rfl, FinG.mk _ rfl rfl rfl⟩
end Go.Vm

namespace Go.Vm
open Go.Proofs
set_option maxRecDepth 100000 in
theorem c_cloneI00 (cap : Nat) (H : List Blk) : ACall Tryz.prog 112 [.lit (.slice none 0 cap)] H (.ret (.lit (.slice none 0 0))) H := by
 refine fn_rule (m := false) (fn := Tryz.f112) (c := (Tryz.f112.body).getD .skip) mixed (by kernel_rfl) (by kernel_rfl) (of_decide_eq_true (by kernel_rfl)) ?_ ?_ ?_ H
 ·exact ⟨trivial, trivial⟩
 ·trivial
 ·refine ifY ?_
  exact ⟨.inl rfl, FinG.mk _ rfl rfl rfl⟩
set_option maxRecDepth 100000 in
theorem c_cloneI01 (a : Addr) (cap : Nat) (H : List Blk) : ACall Tryz.prog 112 [.lit (.slice (some a) 0 cap)] H (.ret (.sl 0 [] .full)) H := by
 refine fn_rule (m := false) (fn := Tryz.f112) (c := (Tryz.f112.body).getD .skip) mixed (by kernel_rfl) (by kernel_rfl) (of_decide_eq_true (by kernel_rfl)) ?_ ?_ ?_ H
 ·exact ⟨trivial, trivial⟩
 ·exact ⟨trivial, trivial⟩
 ·refine ifN ?_
  refine Ex.mk _ rfl ?_
  exact ⟨.inl rfl, FinG.mk _ rfl rfl rfl⟩
set_option maxRecDepth 100000 in
theorem CallG.cloneI {l : List Int} {t : Trie Blk} {n : Nat} {K Kp : AV → Trie Blk → Nat → Nat → Prop} (hl : l.length < 1000000) (hn : n ≤ noLo) (k : K (.sl l.length (l.map n') (.own n 0 1)) (set t n (.row 0)) (n + 1) noLo) : CallG Tryz.prog 112 [eInts l] t n K Kp := by
 refine .ret fun H hH => ?_
 have hlen := hH.len
 have hrow : (H ++ [Blk.row 0])[n]? = some (.row 0) := by rw [← hlen]; simp
 cases l with
 | nil =>
  refine ⟨_, _, _, noLo, H ++ [.row 0], hH.push _, ?_, Keep.append _ _ _, k⟩
  refine ACall.empty fun b cap => ?_
  cases b with
  | none => exact (c_cloneI00 cap H).more (.row 0) (WeakH.own 1 hrow) rfl
  | some a => exact (c_cloneI01 a cap H).more (.row 0) (WeakH.fullOwn 1 hrow) rfl
 | cons e l =>
  have key : ∃ H', HT (setL t [(n, .row 0)]) (n + 1) H' ∧ ACall Tryz.prog 112 [eInts (e :: l)] H (.ret (.sl (e :: l).length ((e :: l).map n') (.own n 0 1))) H' ∧ Keep H H' noLo := by
   refine fn_new (m := false) (fn := Tryz.f112) (c := (Tryz.f112.body).getD .skip) mixed (by kernel_rfl) (by kernel_rfl) (of_decide_eq_true (by kernel_rfl)) ?_ H hH
   refine ifN ?_
   refine ex_app _ _ (appT_full (e := 3) (bytes := 8) (z := .int .i64 0) (by kernel_rfl) (by kernel_rfl) (by kernel_rfl) (by kernel_rfl) (by kernel_rfl) (src_ints _ (e :: l)) (by simp) rfl (by simp at hl ⊢; omega)) ?_
   refine ⟨.inl rfl, hn, rfl, ⟨⟨get_set_same _ _ _, Nat.lt_succ_self _⟩, trivial⟩, FinF.mk _ rfl rfl ?_⟩
   show AV.sl (0 + (e :: l).length) ([] ++ (e :: l).map n') _ = _
   rw [List.nil_append, Nat.zero_add]
  obtain ⟨H', h1, h2, h3⟩ := key
  exact ⟨_, _, _, noLo, H', h1, h2, h3, k⟩
end Go.Vm

namespace Go.Vm
open Go.Proofs
def eTurn (l d : Int) : AV := .agg [n' l, n' d]
set_option maxRecDepth 100000 in
theorem c_cloneP (p q : Int) {t : Trie Blk} (H : List Blk) (hH : HT t 1 H) : ∃ H', HT (setL t [(1, .mrow 0 [n' p, n' q])]) 2 H' ∧ ACall Tryz.prog 112 [eP p q] H (.ret (.msl 1 0 2 1)) H' ∧ Keep H H' noLo := by
 refine fn_new (m := true) (fn := Tryz.f112) (c := (Tryz.f112.body).getD .skip) mixed (by kernel_rfl) (by kernel_rfl) (of_decide_eq_true (by kernel_rfl)) ?_ H hH
 refine ifN ?_
 refine Ex.mk _ rfl ?_
 exact ⟨.inl rfl, leb rfl, rfl, ⟨bk rfl rfl, trivial⟩, FinF.mk _ rfl rfl rfl⟩
set_option maxRecDepth 100000 in
theorem c_turn0 {p q d : Int} (hp : -100 ≤ p ∧ p ≤ 100) (hd : -1 ≤ d ∧ d ≤ 1) (H : List Blk) : ACall Tryz.prog 102 [eP p q, eTurn 0 d] H (.ret (eP (p + d) q)) H := by
 refine fn_rule (m := false) (fn := Tryz.f102) (c := (Tryz.f102.body).getD .skip) mixed (by kernel_rfl) (by kernel_rfl) (of_decide_eq_true (by kernel_rfl)) ?_ ?_ ?_ H
 ·exact ⟨under_eP _ _ _, ⟨trivial, trivial, trivial⟩, trivial⟩
 ·exact under_eP _ _ _
 ·refine CallG.new _ (c_cloneP p q) ?_
  refine Ex.mk _ rfl ?_
  refine Ex.mk _ rfl ?_
  refine Side.mk (fits64 (by omega)) ?_
  refine Ex.mk _ rfl ?_
  refine Ex.mk _ rfl ?_
  exact ⟨.inl rfl, FinG.mk _ rfl rfl rfl⟩
set_option maxRecDepth 100000 in
theorem c_turn1 {p q d : Int} (hp : -100 ≤ q ∧ q ≤ 100) (hd : -1 ≤ d ∧ d ≤ 1) (H : List Blk) : ACall Tryz.prog 102 [eP p q, eTurn 1 d] H (.ret (eP p (q + d))) H := by
 refine fn_rule (m := false) (fn := Tryz.f102) (c := (Tryz.f102.body).getD .skip) mixed (by kernel_rfl) (by kernel_rfl) (of_decide_eq_true (by kernel_rfl)) ?_ ?_ ?_ H
 ·exact ⟨under_eP _ _ _, ⟨trivial, trivial, trivial⟩, trivial⟩
 ·exact under_eP _ _ _
 ·refine CallG.new _ (c_cloneP p q) ?_
  refine Ex.mk _ rfl ?_
  refine Ex.mk _ rfl ?_
  refine Side.mk (fits64 (by omega)) ?_
  refine Ex.mk _ rfl ?_
  refine Ex.mk _ rfl ?_
  exact ⟨.inl rfl, FinG.mk _ rfl rfl rfl⟩
set_option maxRecDepth 100000 in
theorem c_turned0 {p q d : Int} (hp : -100 ≤ p ∧ p ≤ 100) (hd : -1 ≤ d ∧ d ≤ 1) (H : List Blk) : ACall Tryz.prog 47 [eP p q, eTurn 0 d] H (.ret (eP (p + d) q)) H := by
 refine fn_rule (m := true) (fn := Tryz.f47) (c := (Tryz.f47.body).getD .skip) mixed (by kernel_rfl) (by kernel_rfl) (of_decide_eq_true (by kernel_rfl)) ?_ ?_ ?_ H
 ·exact ⟨under_eP _ _ _, ⟨trivial, trivial, trivial⟩, trivial⟩
 ·exact under_eP _ _ _
 ·refine Ex.mk _ rfl ?_
  refine Ex.mk _ rfl ?_
  refine Ex.mk _ rfl ?_
  refine Side.mk (fits64 (by omega)) ?_
  refine Ex.mk _ rfl ?_
  refine Ex.mk _ rfl ?_
  exact ⟨.inl rfl, FinG.mk _ rfl rfl rfl⟩
set_option maxRecDepth 100000 in
theorem c_turned1 {p q d : Int} (hp : -100 ≤ q ∧ q ≤ 100) (hd : -1 ≤ d ∧ d ≤ 1) (H : List Blk) : ACall Tryz.prog 47 [eP p q, eTurn 1 d] H (.ret (eP p (q + d))) H := by
 refine fn_rule (m := true) (fn := Tryz.f47) (c := (Tryz.f47.body).getD .skip) mixed (by kernel_rfl) (by kernel_rfl) (of_decide_eq_true (by kernel_rfl)) ?_ ?_ ?_ H
 ·exact ⟨under_eP _ _ _, ⟨trivial, trivial, trivial⟩, trivial⟩
 ·exact under_eP _ _ _
 ·refine Ex.mk _ rfl ?_
  refine Ex.mk _ rfl ?_
  refine Ex.mk _ rfl ?_
  refine Side.mk (fits64 (by omega)) ?_
  refine Ex.mk _ rfl ?_
  refine Ex.mk _ rfl ?_
  exact ⟨.inl rfl, FinG.mk _ rfl rfl rfl⟩
set_option maxRecDepth 100000 in
theorem c_turns (st : Int) (a b : LimbD) (H : List Blk) : ACall Tryz.prog 14 [eFig st a b] H (.ret (.sl 4 [n' 0, n' (-1), n' 0, n' 1, n' 1, n' (-1), n' 1, n' 1] .unk)) H := by
 refine fn_rule (m := false) (fn := Tryz.f14) (c := (Tryz.f14.body).getD .skip) mixed (by kernel_rfl) (by kernel_rfl) (of_decide_eq_true (by kernel_rfl)) ?_ ?_ ?_ H
 ·exact ⟨under_eFig _ _ _ _, trivial⟩
 ·exact ⟨⟨trivial, trivial, trivial, trivial, trivial, trivial, trivial, trivial, trivial⟩, trivial⟩
 ·refine LoopG.round mixed (m := false) ?_
  refine If.mk (fun _ => ?_) (fun h => absurd (by decide) h)
  refine ifY ?_
  refine Ex.mk _ rfl ?_
  refine Side.mk (by unfold fitsK; kernel_rfl) ?_
  refine LoopG.round mixed (m := false) ?_
  refine If.mk (fun _ => ?_) (fun h => absurd (by decide) h)
  refine ifY ?_
  refine Ex.mk _ rfl ?_
  refine Side.mk (by unfold fitsK; kernel_rfl) ?_
  refine LoopG.round mixed (m := false) ?_
  refine If.mk (fun h => absurd h (by decide)) (fun _ => ?_)
  refine ifN ?_
  exact ⟨.inl rfl, FinG.mk _ rfl rfl rfl⟩
end Go.Vm

namespace Go.Vm
structure MixOk (x : List Int) (L : List (List Int)) (o : List Int) : Prop where
 len : o.length = x.length
 at' : ∀ i, i < x.length → (o[i]? = x[i]? ∧ ∀ y ∈ L, y[i]? = x[i]?) ∨ (o[i]? = some (-1) ∧ ∃ y ∈ L, y[i]? ≠ x[i]?)
end Go.Vm

namespace Go.Vm
open Go.Proofs
def LineOk (l : List Int) : Prop := l.length ≤ 4 ∧ ∀ x ∈ l, 0 ≤ x ∧ x < 3
structure VbOk (C : List (List Int)) : Prop where
 n : 1 ≤ C.length ∧ C.length ≤ 5
 line : ∀ c ∈ C, LineOk c
end Go.Vm

namespace Go.Vm
open Go.Proofs
def kk (a : Nat) : Nat := [0, 0, 1, 3, 6].getD a 0
end Go.Vm

namespace Go.Vm
open Go.Proofs
def prodL {α β : Type} (l : List α) (m : List β) : List (α × β) := l.flatMap fun a => m.map fun b => (a, b)
theorem prodL_mem {α β : Type} {l : List α} {m : List β} {a : α} {b : β} (ha : a ∈ l) (hb : b ∈ m) : (a, b) ∈ prodL l m :=
 List.mem_flatMap.2 ⟨a, ha, List.mem_map.2 ⟨b, hb, rfl⟩⟩
def r2 : List Bool := [false, true]
theorem r2_mem (b : Bool) : b ∈ r2 := by cases b <;> simp [r2]
def tv : AV := .lit (.bool true)
theorem isI64_small {n : Int} (h : -1 ≤ n ∧ n ≤ 1000) : isI64 (.int .i64 n) = true := by
 unfold isI64
 rw [Bool.and_eq_true, decide_eq_true_iff, decide_eq_true_iff]
 omega
set_option maxRecDepth 100000 in
theorem c_index (l : List Int) (x : Int) (hl : l.length < 4611686018427387904) (H : List Blk) : ACall Tryz.prog 161 [eInts l, n' x] H (.ret (n' (idxOf (fun y => x = y) l))) H := by
 refine fn_rule (m := false) (fn := Tryz.f161) (c := (Tryz.f161.body).getD .skip) mixed (by kernel_rfl) (by kernel_rfl) (of_decide_eq_true (by kernel_rfl)) ?_ ?_ ?_ H
 ·exact ⟨under_eInts 0 _, trivial, trivial⟩
 ·trivial
 ·refine LoopG.at (n0 := 0) rfl (loop_up mixed (m := false) (fun r => [(0, eInts l), (1, n' x), (7, n' (l.length : Nat)), (8, n' r)]) (fun _ => []) (fun r => ∀ y ∈ l.take r, ¬ x = y) l.length 0 (Nat.zero_le _) (fun _ h => by simp at h) ?_ trivial ?_)
  ·exact ⟨⟨_, rfl, Weak.refl _ _, under_eInts _ _⟩, wp rfl trivial, wp rfl trivial, wp rfl trivial, trivial⟩
  ·intro r hr hI
   refine If.mk (fun h1 => ?_) (fun h1 => ?_)
   ·refine ifY ?_
    have hrl : r < l.length := by omega
    refine Ex.mk _ (jx_ints (r := r) rfl (List.getElem?_eq_getElem hrl)) ?_
    refine Ex.mk _ rfl ?_
    refine If.mk (fun h2 => ?_) (fun h2 => ?_)
    ·refine ifY ?_
     refine ⟨Nat.zero_le _, .inl rfl, FinG.mk _ rfl rfl ?_⟩
     rw [idx_hit hrl hI h2]
     rfl
    ·refine ifN ?_
     refine Side.mk (fits64 (by omega)) ?_
     exact ⟨Nat.zero_le _, rfl, by omega, all_snoc (p := fun y => ¬ x = y) hrl hI h2, ⟨⟨_, rfl, Weak.refl _ _, under_eInts _ _⟩, wp rfl trivial, wp rfl trivial, wp rfl trivial, trivial⟩, trivial, trivial⟩
   ·refine ifN ?_
    have er : r = l.length := by omega
    subst er
    rw [List.take_length] at hI
    refine ⟨Nat.zero_le _, .inl rfl, FinG.mk _ rfl rfl ?_⟩
    rw [idx_miss hI]
    rfl
set_option maxRecDepth 100000 in
theorem c_contains (l : List Int) (x : Int) (hl : l.length < 4611686018427387904) (H : List Blk) : ACall Tryz.prog 108 [eInts l, n' x] H (.ret (.lit (.bool (decide (x ∈ l))))) H := by
 have key : 0 ≤ idxOf (fun y => x = y) l ↔ x ∈ l := idx_nonneg.trans ⟨fun ⟨y, h1, h2⟩ => by rw [h2]; exact h1, fun h => ⟨x, h, rfl⟩⟩
 refine fn_rule (m := false) (fn := Tryz.f108) (c := (Tryz.f108.body).getD .skip) mixed (by kernel_rfl) (by kernel_rfl) (of_decide_eq_true (by kernel_rfl)) ?_ ?_ ?_ H
 ·exact ⟨under_eInts 0 _, trivial, trivial⟩
 ·trivial
 ·refine CallG.pure _ (c_index l x hl) ?_
  refine If.mk (fun h => ?_) (fun h => ?_)
  ·exact ⟨.inl rfl, FinG.yes rfl rfl (key.1 h)⟩
  ·exact ⟨.inl rfl, FinG.no rfl rfl (fun e => h (key.2 e))⟩
def cuesI (l : List Nat) : List Int := l.map fun c : Nat => (c : Int)
def cuesA (l : List Nat) : AV := eInts (cuesI l)
theorem cuesI_length (l : List Nat) : (cuesI l).length = l.length := List.length_map _
theorem cuesI_snoc (l : List Nat) (r : Nat) : cuesI (l ++ [r]) = cuesI l ++ [(r : Int)] := List.map_append
theorem under_cuesA (n : Nat) (l : List Nat) : (cuesA l).under n := under_eInts n _
theorem ACall.weakRet' {P : Program} {f : FuncId} {args : List AV} {H H' : List Blk} {v v' : AV} (h : ACall P f args H (.ret v) H') (hw : ∀ H, WeakH H v v') : ACall P f args H (.ret v') H' := by
 intro O ι w cs hR hargs
 refine (h O ι w cs hR hargs).mono ?_
 rintro e w' ⟨ι', hend, hR', hev, hnon⟩
 refine ⟨ι', ?_, hR', hev, hnon⟩
 cases e with
 | returned c => exact hw H' O ι' w' c hend
 | panicked chain => exact hend.elim
 | outgrown => exact hend.elim
theorem wk_snocI {now : List Int} {r : Nat} {tl : Tail} (H : List Blk) : WeakH H (.sl (now.length + 1) (now.map n' ++ [n' r]) tl) (eInts (now ++ [(r : Int)])) := by
 unfold eInts
 rw [List.length_append, List.map_append]
 exact WeakH.tail _ _ _ H
theorem fn_preE {P : Program} {m : Bool} {f : FuncId} {fn : Func} {c : Code} {args : List AV} {t0 : Trie Blk} {Hp : List Blk} {n0 : Nat} (Pr : AV → Prop) (hm : P.follows .mixedOrders = true) (hf : P.funcs[f]? = some fn) (hb : fn.body = some c) (hn : args.length ≤ fn.ntmps)
  (hH : HT t0 n0 Hp) (ha : AV.unders n0 args) (hp : ∀ B ∈ Hp, B.under n0)
  (h : gCode P m fn.ntmps none c (initVars 0 args) t0 n0 [] noLo fun x e lo => (x = .ret ∨ x = .normal) ∧ n0 ≤ lo ∧ e.defs = [] ∧ ∃ vs v, resT P (get e.t) e.vars fn.results.toList = some vs ∧ (∀ H, WeakH H (resV vs) v) ∧ v.under n0 ∧ Pr v) :
  ∃ v, Pr v ∧ ∀ H2, ACall P f args (Hp ++ H2) (.ret v) (Hp ++ H2) := by
 have e0 := hH.len
 subst e0
 obtain ⟨x, e, lo, H', hH', hk', hrun, hx, hlo, hd, vs, v, hres, hw, hv, hP⟩ := gCode_spec hm c _ _ _ _ _ _ h Hp Hp hH (Keep.refl _ _)
 rw [hd] at hrun
 have hcr : ACall P f args Hp (.ret v) H' := (ACall.intro_marks hf hb hn hrun hx List.nodup_nil (resT_sound hH' hres)).weakRet' hw
 have e : H'.take Hp.length = Hp := by
  refine List.ext_getElem? fun i => ?_
  by_cases hi : i < Hp.length
  ·rw [List.getElem?_take_of_lt hi]; exact hk'.low i (by omega) hi
  ·rw [List.getElem?_eq_none (by rw [List.length_take]; omega), List.getElem?_eq_none (by omega)]
 have hcut := hcr.cut hv (by rw [e]; exact hp)
 rw [e] at hcut
 exact ⟨v, hP, fun H2 => hcut.frame rfl ha hv hp hp H2⟩
theorem wk_tup2F {H : List Blk} {a a' b : AV} (h : WeakH H a a') : WeakH H (.tup [a, b]) (.tup [a', b]) := fun O ι w c x => by
 simp only [VRel] at x ⊢
 obtain ⟨C, hc, hr⟩ := x
 refine ⟨C, hc, ?_⟩
 generalize C.toList = cs at hr ⊢
 match cs, hr with
 | [], hr => simp [VRels] at hr
 | [_], hr => simp [VRels] at hr
 | x :: y :: cs, hr =>
  simp only [VRels] at hr ⊢
  exact ⟨h O ι w x hr.1, hr.2⟩
def firstV (o : Option (List Nat)) : AV := .tup [match o with | none => cuesA [] | some l => cuesA l, nb o.isSome]
theorem under_firstV (n : Nat) (o : Option (List Nat)) : (firstV o).under n := by
 cases o with
 | none => exact ⟨under_cuesA n _, trivial, trivial⟩
 | some l => exact ⟨under_cuesA n _, trivial, trivial⟩
theorem WeakH.fullOwnN {H : List Blk} {r len : Nat} {cells : List AV} {sz : Nat} (hn : cells.length = len * sz) (hr : H[r]? = some (.row 0)) : WeakH H (.sl len cells .full) (.sl len cells (.own r 0 sz)) := fun _ _ _ _ h => by
 simp only [VRel] at h ⊢
 obtain ⟨base, cap, hc, hle, hcells, ht⟩ := h
 exact ⟨base, cap, hc, hle, hcells, hn, 0, hr, Nat.le_refl _, fun _ => .inl ht⟩
end Go.Vm

namespace Go.Vm
open Go.Proofs
abbrev Pos := (Int × Int × Int × Int) × (Bool × Bool × Bool × Bool × Bool × Bool)
end Go.Vm

namespace Go.Vm
open Go.Proofs
structure Bf where
 q : List (Pos × List Nat)
 met : List Pos
 g : Nat
end Go.Vm

namespace Go.Vm
open Go.Proofs
structure TellR (v w : Vers) (k : Nat) (o : Option (List Nat)) : Prop where
 no : o = none → ∀ u, OkL k u → plays v 0 (cuesI u) = plays w 0 (cuesI u)
 yes : ∀ l, o = some l → OkL k l ∧ plays v 0 (cuesI l) ≠ plays w 0 (cuesI l) ∧ ∀ u, OkL k u → plays v 0 (cuesI u) ≠ plays w 0 (cuesI u) → LE l u
end Go.Vm

namespace Go.Vm
open Go.Proofs
structure LeftOk (vs : List Vers) (L : List Int) : Prop where
 mem : ∀ n ∈ L, 0 ≤ n ∧ n < vs.length
 few : L.length ≤ 4
section
variable {vs : List Vers} {K : Nat} {L : List Int} (hv : ∀ v ∈ vs, VersOk v K) (hv0 : ∀ v ∈ vs, 0 < v.length) (hs : ∀ v ∈ vs, v.length ≤ 4) (hn : vs.length ≤ 4) (hL : LeftOk vs L)
end
end Go.Vm

namespace Go.Vm
open Go.Proofs
def Tells (v w : Vers) (i j : Nat) (u : List Nat) : Prop := plays v i (cuesI u) ≠ plays w j (cuesI u)
structure DOk (v w : Vers) (K r i j : Nat) (l : List Nat) : Prop where
 yes : l ≠ [] → OkL K l ∧ Tells v w i j l ∧ l.length ≤ r ∧ ∀ u, OkL K u → Tells v w i j u → LE l u
 no : l = [] → ∀ u, OkL K u → u.length ≤ r → ¬ Tells v w i j u
end Go.Vm

namespace Go.Vm
open Go.Proofs
def intV (l : List Int) : Value := .agg (l.map fun x => Value.int .i64 x).toArray
def kE (es : List (List Int × Int)) : List (Value × AV) := es.map fun p => (intV p.1, n' p.2)
def lookI (es : List (List Int × Int)) (k : List Int) : Option Int := (es.find? fun p => decide (p.1 = k)).map (·.2)
theorem veqs_ints : ∀ {a b : List Int}, veqs (a.map fun x => Value.int .i64 x) (b.map fun x => Value.int .i64 x) = decide (a = b)
 | [], [] => rfl
 | [], _ :: _ => rfl
 | _ :: _, [] => rfl
 | x :: a, y :: b => by
  show (decide (x = y) && veqs (a.map fun x => Value.int .i64 x) (b.map fun x => Value.int .i64 x)) = _
  rw [veqs_ints, Bool.eq_iff_iff, Bool.and_eq_true, decide_eq_true_iff, decide_eq_true_iff, decide_eq_true_iff, List.cons.injEq]
theorem veq_ints (a b : List Int) : veq (intV a) (intV b) = decide (a = b) := by
 show veqs (a.map fun x => Value.int .i64 x).toArray.toList (b.map fun x => Value.int .i64 x).toArray.toList = _
 exact veqs_ints
theorem mlook_ints (k : List Int) : ∀ es, mlook (kE es) (intV k) = (lookI es k).map n'
 | [] => rfl
 | p :: es => by
  have ih := mlook_ints k es
  unfold mlook lookI kE at ih ⊢
  rw [List.map_cons, List.find?_cons, List.find?_cons]
  simp only [veq_ints]
  by_cases h : p.1 = k
  ·simp [h]
  ·simp only [h, decide_false]
   exact ih
theorem mset_ints {k : List Int} {x : Int} : ∀ {es : List (List Int × Int)}, (∀ p ∈ es, p.1 ≠ k) → mset (kE es) (intV k) (n' x) = kE (es ++ [(k, x)])
 | [], _ => rfl
 | p :: es, h => by
  show (if veq (intV p.1) (intV k) = true then (intV p.1, n' x) :: kE es else (intV p.1, n' p.2) :: mset (kE es) (intV k) (n' x)) = _
  rw [veq_ints, decide_eq_false (h p (by simp)), mset_ints fun q hq => h q (by simp [hq])]
  rfl
theorem concs_ints : ∀ k : List Int, concs (k.map n') = some (k.map fun x => Value.int .i64 x)
 | [] => rfl
 | x :: k => by
  show (concs (k.map n')).map (Value.int .i64 x :: ·) = _
  rw [concs_ints k]
  rfl
theorem conc_ints (k : List Int) : conc (.agg (k.map n')) = some (intV k) := by
 show (concs (k.map n')).map (fun l => Value.agg l.toArray) = _
 rw [concs_ints]
 rfl
end Go.Vm

namespace Go.Vm
def From (a K : Nat) (u : List Nat) : Prop := Inc u ∧ ∀ x ∈ u, a ≤ x ∧ x < K
structure Fst (ok : List Nat → Bool) (K a m : Nat) (pre : List Nat) (o : Option (List Nat)) : Prop where
 yes : ∀ l, o = some l → ∃ u, l = pre ++ u ∧ u.length = m ∧ From a K u ∧ ok (pre ++ u) = true ∧ ∀ w, w.length = m → From a K w → ok (pre ++ w) = true → u = w ∨ Lx u w
 no : o = none → ∀ w, w.length = m → From a K w → ¬ ok (pre ++ w) = true
structure TmOk (S : List (List Int)) (K : Nat) : Prop where
 n : 1 ≤ S.length ∧ S.length ≤ 4
 k : 1 ≤ K ∧ K ≤ 4
 row : ∀ r ∈ S, r.length = K ∧ ∀ x ∈ r, 0 ≤ x ∧ x ≤ 5
section
variable {S : List (List Int)} {K : Nat} (h : TmOk S K)
include h
end
end Go.Vm

namespace Go.Vm
open Go.Proofs
theorem app_line {g : Nat → Option Blk} {n len id gen : Nat} {cells : List AV} {l : List Int} (h1 : cells.length = len) (h2 : len < 2097152) (hg : g id = some (.row gen)) :
  appT Tryz.prog false g n 38 38 (.sl len cells (.own id gen 1)) (.sl 1 [eInts l] .full) = some (.sl (len + 1) (cells ++ [eInts l]) (.own id (gen + 1) 1), .set id (.row (gen + 1))) :=
 appT_own (e := 30) (bytes := 24) (z := .slice none 0 0) (by kernel_rfl) (by kernel_rfl) (by kernel_rfl) (by kernel_rfl) (by kernel_rfl) rfl (by omega) (by omega) (by omega) hg rfl
theorem freeze_lists (g : Nat → Option Blk) (L : List (List Int)) (a b c : Nat) : AV.freeze g (.sl L.length (L.map eInts) (.own a b c)) = eLists L := by
 show AV.sl L.length (AV.freezes g (L.map eInts)) .unk = eLists L
 rw [freezes_map (f := eInts) (fun x => by
  show AV.sl x.length (AV.freezes g (x.map n')) .unk = eInts x
  rw [freezes_ints]
  rfl)]
 rfl
end Go.Vm

namespace Go.Vm
open Go.Proofs
def spanL (lo hi : Int) : List Int := (List.range (hi - lo + 1).toNat).map fun i => lo + (i : Nat)
theorem spanL_length (lo hi : Int) : (spanL lo hi).length = (hi - lo + 1).toNat := by simp [spanL]
theorem spanL_at {lo hi : Int} {r : Nat} (h : r < (hi - lo + 1).toNat) : (spanL lo hi)[r]? = some (lo + (r : Nat)) := by
 unfold spanL
 rw [List.getElem?_map, List.getElem?_range h]; rfl
theorem spanL_take {lo hi : Int} {r : Nat} (h : r < (hi - lo + 1).toNat) : (spanL lo hi).take (r + 1) = (spanL lo hi).take r ++ [lo + (r : Nat)] := by
 have h' : r < (spanL lo hi).length := by rw [spanL_length]; exact h
 rw [take_snoc h']
 congr 1
 have := spanL_at h
 rw [List.getElem?_eq_getElem h'] at this
 rw [Option.some.inj this]
def pairsI (P Q : List Int) : List (List Int) := P.flatMap fun p => Q.map fun q => [p, q]
def prsI (P Q : List Int) (k r : Nat) : List (List Int) := pairsI (P.take k) Q ++ (Q.take r).map fun q => [P.getD k 0, q]
theorem app_one {g : Nat → Option Blk} {n len id gen : Nat} {cells : List AV} {x : AV} (h1 : cells.length = len) (h2 : len < 2097152) (hg : g id = some (.row gen)) (hx : x.one = true) :
  appT Tryz.prog false g n 38 38 (.sl len cells (.own id gen 1)) (.sl 1 [x] .full) = some (.sl (len + 1) (cells ++ [x]) (.own id (gen + 1) 1), .set id (.row (gen + 1))) :=
 appT_own (e := 30) (bytes := 24) (z := .slice none 0 0) (by kernel_rfl) (by kernel_rfl) (by kernel_rfl) (by kernel_rfl) (by kernel_rfl) rfl (by omega) (by omega) (by omega) hg (by show (x.one && true) = true; rw [hx]; rfl)
theorem prsI_snoc {l0 h0 l1 h1 : Int} {k r : Nat} (hk : k < (h0 - l0 + 1).toNat) (hr : r < (h1 - l1 + 1).toNat) : prsI (spanL l0 h0) (spanL l1 h1) k (r + 1) = prsI (spanL l0 h0) (spanL l1 h1) k r ++ [[l0 + (k : Nat), l1 + (r : Nat)]] := by
 unfold prsI
 rw [spanL_take hr, List.map_append, List.append_assoc]
 have e : (spanL l0 h0).getD k 0 = l0 + (k : Nat) := by rw [List.getD_eq_getElem?_getD, spanL_at hk]; rfl
 rw [e]; rfl
theorem prsI_next {l0 h0 : Int} {Q : List Int} {k : Nat} (hk : k < (h0 - l0 + 1).toNat) : prsI (spanL l0 h0) Q k Q.length = prsI (spanL l0 h0) Q (k + 1) 0 := by
 unfold prsI pairsI
 have e : (spanL l0 h0).getD k 0 = l0 + (k : Nat) := by rw [List.getD_eq_getElem?_getD, spanL_at hk]; rfl
 rw [spanL_take hk, List.flatMap_append, List.take_length, e]
 simp
theorem prsI_all (P Q : List Int) : prsI P Q P.length 0 = pairsI P Q := by
 unfold prsI
 rw [List.take_length]; simp
theorem prsI_length (P Q : List Int) {k r : Nat} (hk : k ≤ P.length) (hr : r ≤ Q.length) : (prsI P Q k r).length = k * Q.length + r := by
 unfold prsI pairsI
 rw [List.length_append, List.length_map, List.length_take, List.length_flatMap, Nat.min_eq_left hr]
 simp only [List.length_map, List.map_const', List.length_take, List.sum_replicate_nat, Nat.min_eq_left hk]
def sglI (P : List Int) (r : Nat) : List (List Int) := (P.take r).map fun p => [p]
theorem sglI_length {P : List Int} {r : Nat} (h : r ≤ P.length) : (sglI P r).length = r := by unfold sglI; rw [List.length_map, List.length_take]; omega
theorem sglI_snoc {lo hi : Int} {r : Nat} (h : r < (hi - lo + 1).toNat) : sglI (spanL lo hi) (r + 1) = sglI (spanL lo hi) r ++ [[lo + (r : Nat)]] := by
 unfold sglI; rw [spanL_take h, List.map_append]; rfl
def lsA (R : Nat) (L : List (List Int)) : AV := .sl L.length (L.map eInts) (.own R L.length 1)
theorem under_lsA {n R : Nat} (L : List (List Int)) (h : R < n) : (lsA R L).under n := ⟨unders_map (under_eInts _) _, h⟩
theorem wk_lsA {R : Nat} {L : List (List Int)} {l : List Int} {x : AV} {t : Trie Blk} (hx : ∀ H, WeakH H x (eInts l)) : Weak t (.sl (L.length + 1) (L.map eInts ++ [x]) (.own R (L.length + 1) 1)) (lsA R (L ++ [l])) := fun _ H _ O ι w c h => by
 have h2 := wk_sl (Weaks.snoc hx (L.map eInts)) O ι w c h
 have e : AV.sl (L.length + 1) (L.map eInts ++ [eInts l]) (.own R (L.length + 1) 1) = lsA R (L ++ [l]) := by unfold lsA; rw [List.length_append, List.map_append]; rfl
 rw [← e]; exact h2
abbrev out0 : AV := .sl 1 [.lit (.slice none 0 0)] .full
set_option maxHeartbeats 2000000 in
set_option maxRecDepth 100000 in
theorem c_rbetween {l0 l1 h0 h1 : Int} (k0 : -4 ≤ l0 ∧ l0 ≤ h0 ∧ h0 ≤ 4) (k1 : -4 ≤ l1 ∧ l1 ≤ h1 ∧ h1 ≤ 4) (H : List Blk) : ACall Tryz.prog 42 [eP l0 l1, eP h0 h1] H (.ret (eLists (pairsI (spanL l0 h0) (spanL l1 h1)))) H := by
 refine fn_rule (m := false) (fn := Tryz.f42) (c := (Tryz.f42.body).getD .skip) mixed (by kernel_rfl) (by kernel_rfl) (of_decide_eq_true (by kernel_rfl)) ?_ ?_ ?_ H
 ·exact ⟨under_eP _ _ _, under_eP _ _ _, trivial⟩
 ·exact under_eLists _ _
 ·refine LoopG.round mixed (m := false) ?_
  refine If.mk (fun _ => ?_) (fun h => absurd (by decide) h)
  refine ifY ?_
  refine LoopG.round mixed (m := false) ?_
  refine If.mk (fun _ => ?_) (fun h => absurd (by decide) h)
  refine ifY ?_
  refine Ex.mk _ rfl ?_
  refine Ex.mk _ rfl ?_
  have hN0 : (spanL l0 h0).length = (h0 - l0 + 1).toNat := spanL_length _ _
  refine LoopG.ghost (LoopG.at (n0 := 1) rfl ?_)
  refine loop_up mixed (m := false) (fun r => [(0, eP l0 l1), (1, eP h0 h1), (5, out0), (6, n' 0), (7, lsA 0 (sglI (spanL l0 h0) r)), (8, n' 0), (9, n' (l0 + (r : Nat)))]) (fun r => [(0, .row (sglI (spanL l0 h0) r).length)]) (fun _ => True) (h0 - l0 + 1).toNat 0 (leb rfl) trivial ?_ ?_ ?_
  ·exact ⟨⟨_, rfl, Weak.refl _ _, under_eP _ _ _⟩, ⟨_, rfl, Weak.refl _ _, under_eP _ _ _⟩, ⟨_, rfl, Weak.refl _ _, ⟨⟨trivial, trivial⟩, trivial⟩⟩, wp rfl trivial, ⟨_, rfl, Weak.own (r := 0) (g := 0) 1 rfl, under_lsA _ (ltb rfl)⟩, wp rfl trivial, ⟨_, rfl, Weak.of_eq (congrArg n' (by omega)), trivial⟩, trivial⟩
  ·exact ⟨bk rfl rfl, trivial⟩
  ·intro r hr _
   refine Ex.mk _ rfl ?_
   refine Ex.mk _ rfl ?_
   refine If.mk (fun g1 => ?_) (fun g1 => ?_)
   ·refine ifY ?_
    have hr' : r < (h0 - l0 + 1).toNat := by omega
    refine Ex.mk _ rfl ?_
    refine Ex.mk _ rfl ?_
    refine Ex.mk _ rfl ?_
    refine Ex.mk _ rfl ?_
    refine ex_app _ _ (app_one (List.length_map _) (by rw [sglI_length (by omega)]; omega) rfl rfl) ?_
    refine Side.mk (fits64 (by omega)) ?_
    refine ⟨leb rfl, rfl, hr', trivial, ⟨⟨_, rfl, Weak.refl _ _, under_eP _ _ _⟩, ⟨_, rfl, Weak.refl _ _, under_eP _ _ _⟩, ⟨_, rfl, Weak.refl _ _, ⟨⟨trivial, trivial⟩, trivial⟩⟩, wp rfl trivial, ⟨_, rfl, ?_, under_lsA _ (ltb rfl)⟩, wp rfl trivial, ⟨_, rfl, Weak.of_eq (congrArg n' (by omega)), trivial⟩, trivial⟩, ⟨⟨?_, ltb rfl⟩, trivial⟩, ⟨⟨_, rfl, trivial⟩, trivial⟩⟩
    ·rw [sglI_snoc hr']
     exact wk_lsA fun H => WeakH.tail _ _ _ H
    ·rw [sglI_snoc hr', List.length_append]; rfl
   ·refine ifN ?_
    obtain rfl : r = (h0 - l0 + 1).toNat := by omega
    refine ⟨leb rfl, ?_⟩
    refine Side.mk (by unfold fitsK; kernel_rfl) ?_
    refine LoopG.round mixed (m := false) ?_
    refine If.mk (fun h => absurd h (by decide)) (fun _ => ?_)
    refine ifN ?_
    refine Side.mk (by unfold fitsK; kernel_rfl) ?_
    refine LoopG.round mixed (m := false) ?_
    refine If.mk (fun _ => ?_) (fun h => absurd (by decide) h)
    refine ifY ?_
    have hN1 : (spanL l1 h1).length = (h1 - l1 + 1).toNat := spanL_length _ _
    refine LoopG.ghost (LoopG.at (n0 := 2) rfl ?_)
    refine loop_up mixed (m := false) (fun k => [(0, eP l0 l1), (1, eP h0 h1), (5, eLists (sglI (spanL l0 h0) (h0 - l0 + 1).toNat)), (6, n' 1), (7, lsA 1 (prsI (spanL l0 h0) (spanL l1 h1) k 0)), (8, n' (k : Nat))])
     (fun k => [(1, .row (prsI (spanL l0 h0) (spanL l1 h1) k 0).length)]) (fun _ => True) (h0 - l0 + 1).toNat 0 (leb rfl) trivial ?_ ?_ ?_
    ·exact ⟨⟨_, rfl, Weak.refl _ _, under_eP _ _ _⟩, ⟨_, rfl, Weak.refl _ _, under_eP _ _ _⟩, ⟨_, rfl, Weak.tail _ _ _ _, under_eLists _ _⟩, wp rfl trivial, ⟨_, rfl, Weak.own (r := 1) (g := 0) 1 rfl, under_lsA _ (ltb rfl)⟩, wp rfl trivial, trivial⟩
    ·exact ⟨bk rfl rfl, trivial⟩
    ·intro k hk _
     refine If.mk (fun g2 => ?_) (fun g2 => ?_)
     ·refine ifY ?_
      have g2' : (k : Int) < ((sglI (spanL l0 h0) (h0 - l0 + 1).toNat).length : Nat) := g2
      rw [sglI_length (by omega)] at g2'
      have hk' : k < (h0 - l0 + 1).toNat := by omega
      refine Ex.mk _ rfl ?_
      refine Ex.mk _ rfl ?_
      refine loop_up mixed (m := false) (fun r => [(0, eP l0 l1), (1, eP h0 h1), (5, eLists (sglI (spanL l0 h0) (h0 - l0 + 1).toNat)), (6, n' 1), (7, lsA 1 (prsI (spanL l0 h0) (spanL l1 h1) k r)), (8, n' (k : Nat)), (9, n' (l1 + (r : Nat)))])
       (fun r => [(1, .row (prsI (spanL l0 h0) (spanL l1 h1) k r).length)]) (fun _ => True) (h1 - l1 + 1).toNat 1 (leb rfl) trivial ?_ ?_ ?_
      ·exact ⟨⟨_, rfl, Weak.refl _ _, under_eP _ _ _⟩, ⟨_, rfl, Weak.refl _ _, under_eP _ _ _⟩, ⟨_, rfl, Weak.refl _ _, under_eLists _ _⟩, wp rfl trivial, ⟨_, rfl, Weak.refl _ _, under_lsA _ (ltb rfl)⟩, wp rfl trivial, ⟨_, rfl, Weak.of_eq (congrArg n' (by omega)), trivial⟩, trivial⟩
      ·exact ⟨bk rfl rfl, trivial⟩
      ·intro r hr _
       refine Ex.mk _ rfl ?_
       refine Ex.mk _ rfl ?_
       refine If.mk (fun g3 => ?_) (fun g3 => ?_)
       ·refine ifY ?_
        have hr' : r < (h1 - l1 + 1).toNat := by omega
        have hF : (sglI (spanL l0 h0) (h0 - l0 + 1).toNat)[k]? = some [l0 + (k : Nat)] := by
         unfold sglI
         rw [List.getElem?_map, List.getElem?_take_of_lt hk', spanL_at hk']; rfl
        refine Ex.mk _ (jx_lists (r := k) rfl hF) ?_
        refine Ex.mk _ rfl ?_
        refine Ex.mk _ rfl ?_
        refine Ex.mk _ rfl ?_
        have hm : k * (h1 - l1 + 1).toNat ≤ 9 * 9 := Nat.mul_le_mul (by omega) (by omega)
        refine ex_app _ _ (app_one (List.length_map _) (by rw [prsI_length _ _ (by omega) (by omega), hN1]; omega) rfl rfl) ?_
        refine Side.mk (fits64 (by omega)) ?_
        refine ⟨leb rfl, rfl, hr', trivial, ⟨⟨_, rfl, Weak.refl _ _, under_eP _ _ _⟩, ⟨_, rfl, Weak.refl _ _, under_eP _ _ _⟩, ⟨_, rfl, Weak.refl _ _, under_eLists _ _⟩, wp rfl trivial, ⟨_, rfl, ?_, under_lsA _ (ltb rfl)⟩, wp rfl trivial, ⟨_, rfl, Weak.of_eq (congrArg n' (by omega)), trivial⟩, trivial⟩, ⟨⟨?_, ltb rfl⟩, trivial⟩, ⟨⟨_, rfl, trivial⟩, trivial⟩⟩
        ·rw [prsI_snoc hk' hr']
         exact wk_lsA fun H => WeakH.tail _ _ _ H
        ·rw [prsI_snoc hk' hr', List.length_append]; rfl
       ·refine ifN ?_
        obtain rfl : r = (h1 - l1 + 1).toNat := by omega
        refine ⟨leb rfl, ?_⟩
        refine Side.mk (fits64 (by omega)) ?_
        have en : prsI (spanL l0 h0) (spanL l1 h1) k (h1 - l1 + 1).toNat = prsI (spanL l0 h0) (spanL l1 h1) (k + 1) 0 := by rw [← hN1]; exact prsI_next hk'
        exact ⟨leb rfl, rfl, hk', trivial, ⟨⟨_, rfl, Weak.refl _ _, under_eP _ _ _⟩, ⟨_, rfl, Weak.refl _ _, under_eP _ _ _⟩, ⟨_, rfl, Weak.refl _ _, under_eLists _ _⟩, wp rfl trivial, ⟨_, rfl, Weak.of_eq (congrArg (lsA 1) en), under_lsA _ (ltb rfl)⟩, ⟨_, rfl, Weak.of_eq (congrArg n' (by omega)), trivial⟩, trivial⟩,
         ⟨⟨by rw [← en]; rfl, ltb rfl⟩, trivial⟩, ⟨⟨_, rfl, trivial⟩, trivial⟩⟩
     ·refine ifN ?_
      have g2' : ¬ (k : Int) < ((sglI (spanL l0 h0) (h0 - l0 + 1).toNat).length : Nat) := g2
      rw [sglI_length (by omega)] at g2'
      obtain rfl : k = (h0 - l0 + 1).toNat := by omega
      refine ⟨leb rfl, ?_⟩
      refine Side.mk (by unfold fitsK; kernel_rfl) ?_
      refine LoopG.round mixed (m := false) ?_
      refine If.mk (fun h => absurd h (by decide)) (fun _ => ?_)
      refine ifN ?_
      refine ⟨.inl rfl, FinG.mk _ rfl rfl ?_⟩
      have en : prsI (spanL l0 h0) (spanL l1 h1) (h0 - l0 + 1).toNat 0 = pairsI (spanL l0 h0) (spanL l1 h1) := by rw [← hN0]; exact prsI_all _ _
      rw [← en]
      exact freeze_lists _ _ _ _ _
set_option maxRecDepth 100000 in
theorem c_rall {st : Int} {a b : LimbD} (hf : figOk st a b) (H : List Blk) : ACall Tryz.prog 11 [eFig st a b] H (.ret (eLists (pairsI (spanL a.low a.high) (spanL b.low b.high)))) H := by
 obtain ⟨_, ⟨_, _, m3, m4, _⟩, ⟨_, _, k3, k4, _⟩⟩ := hf
 refine fn_rule (m := false) (fn := Tryz.f11) (c := (Tryz.f11.body).getD .skip) mixed (by kernel_rfl) (by kernel_rfl) (of_decide_eq_true (by kernel_rfl)) ?_ ?_ ?_ H
 ·exact ⟨under_eFig _ _ _ _, trivial⟩
 ·exact under_eLists _ _
 ·refine LoopG.round mixed (m := false) ?_
  refine If.mk (fun _ => ?_) (fun h => absurd (by decide) h)
  refine ifY ?_
  refine Ex.mk _ rfl ?_
  refine Ex.mk _ rfl ?_
  refine Ex.mk _ rfl ?_
  refine Ex.mk _ rfl ?_
  refine Ex.mk _ rfl ?_
  refine Ex.mk _ rfl ?_
  refine Side.mk (by unfold fitsK; kernel_rfl) ?_
  refine LoopG.round mixed (m := false) ?_
  refine If.mk (fun _ => ?_) (fun h => absurd (by decide) h)
  refine ifY ?_
  refine Ex.mk _ rfl ?_
  refine Ex.mk _ rfl ?_
  refine Ex.mk _ rfl ?_
  refine Ex.mk _ rfl ?_
  refine Ex.mk _ rfl ?_
  refine Ex.mk _ rfl ?_
  refine Side.mk (by unfold fitsK; kernel_rfl) ?_
  refine LoopG.round mixed (m := false) ?_
  refine If.mk (fun h => absurd h (by decide)) (fun _ => ?_)
  refine ifN ?_
  refine CallG.weak _ (.cons (fun H => WeakH.tail _ _ _ H) (.cons (fun H => WeakH.tail _ _ _ H) (.nil))) (c_rbetween (l0 := a.low) (l1 := b.low) (h0 := a.high) (h1 := b.high) ⟨m3.1, m4.1, m4.2⟩ ⟨k3.1, k4.1, k4.2⟩) ?_
  refine ⟨.inl rfl, FinG.mk _ rfl rfl ?_⟩
  show AV.sl _ (AV.freezes _ ((pairsI (spanL a.low a.high) (spanL b.low b.high)).map eInts)) .unk = eLists _
  rw [freezes_map (f := eInts) (fun x => by
   show AV.sl x.length (AV.freezes _ (x.map n')) .unk = eInts x
   rw [freezes_ints]
   rfl)]
  rfl
end Go.Vm

namespace Go.Vm
open Go.Proofs
abbrev PoseD := Int × Int
def prL (x : PoseD) : List Int := [x.1, x.2]
def ePoses (L : List PoseD) : AV := eLists (L.map prL)
theorem prL_inj {x y : PoseD} : prL x = prL y ↔ x = y := by
 obtain ⟨a, b⟩ := x; obtain ⟨c, d⟩ := y
 simp [prL]
theorem poses_len (L : List PoseD) : (L.map prL).length = L.length := List.length_map _
theorem poses_at {L : List PoseD} {r : Nat} {x : PoseD} (h : L[r]? = some x) : (L.map prL)[r]? = some (prL x) := by rw [List.getElem?_map, h]; rfl
def placeI (L : List PoseD) (y : PoseD) : Int := idxOf (fun x => x = y) L
set_option maxRecDepth 100000 in
theorem c_place (L : List PoseD) (y : PoseD) (hl : L.length < 1000) (H : List Blk) : ACall Tryz.prog 13 [ePoses L, eInts (prL y)] H (.ret (n' (placeI L y))) H := by
 refine fn_rule (m := false) (fn := Tryz.f13) (c := (Tryz.f13.body).getD .skip) mixed (by kernel_rfl) (by kernel_rfl) (of_decide_eq_true (by kernel_rfl)) ?_ ?_ ?_ H
 ·exact ⟨under_eLists _ _, under_eInts _ _, trivial⟩
 ·exact trivial
 ·refine loop_up mixed (m := false) (fun r => [(0, ePoses L), (1, eInts (prL y)), (5, n' (r : Nat))]) (fun _ => []) (fun r => ∀ x ∈ L.take r, ¬ (x = y)) L.length noLo (leb rfl) (fun _ h => by simp at h) ?_ ?_ ?_
  ·exact ⟨⟨_, rfl, Weak.refl _ _, under_eLists _ _⟩, ⟨_, rfl, Weak.refl _ _, under_eInts _ _⟩, wp rfl trivial, trivial⟩
  ·exact trivial
  ·intro r hr hI
   refine If.mk (fun g => ?_) (fun g => ?_)
   ·refine ifY ?_
    have hr' : r < L.length := by
     have : (r : Int) < ((L.map prL).length : Nat) := g
     rw [poses_len] at this; omega
    obtain ⟨x, hx, _, _⟩ := at_some (l := L) (r := r) hr'
    have ex : L[r] = x := by rw [List.getElem?_eq_getElem hr'] at hx; exact Option.some.inj hx
    refine Ex.mk _ (jx_lists (r := r) rfl (poses_at hx)) ?_
    refine Ex.mk _ rfl ?_
    refine CallG.bool (c_same (prL x) (prL y) (by show 2 < _; decide)) (fun h => ?_) (fun h => ?_)
    ·refine ifY ?_
     refine ⟨leb rfl, .inl rfl, FinG.mk _ rfl rfl ?_⟩
     show n' (r : Nat) = _
     unfold placeI
     rw [idx_hit hr' hI (ex.trans (prL_inj.1 h))]
    ·refine ifN ?_
     refine Side.mk (fits64 (by omega)) ?_
     refine ⟨leb rfl, rfl, hr', all_snoc (p := fun x => ¬ (x = y)) hr' hI (fun e => h (prL_inj.2 (ex.symm.trans e))), ⟨⟨_, rfl, Weak.refl _ _, under_eLists _ _⟩, ⟨_, rfl, Weak.refl _ _, under_eInts _ _⟩, wp rfl trivial, trivial⟩, trivial, trivial⟩
   ·refine ifN ?_
    have g' : ¬ (r : Int) < ((L.map prL).length : Nat) := g
    rw [poses_len] at g'
    refine ⟨leb rfl, .inl rfl, FinG.mk _ rfl rfl ?_⟩
    show n' (-1) = _
    unfold placeI
    rw [idx_miss (all_end (p := fun x => ¬ (x = y)) (by omega) hI)]
def nxtI (k : Nat) (x : PoseD) : PoseD := if k = 0 then (x.1 - 1, x.2) else if k = 1 then (x.1 + 1, x.2) else if k = 2 then (x.1, x.2 - 1) else (x.1, x.2 + 1)
def tmvI (L : List PoseD) (to : PoseD) (i : Nat) (x : PoseD) (k : Nat) : Move :=
 ((if 0 ≤ placeI L (nxtI k x) then placeI L (nxtI k x) else (i : Int)), if nxtI k x = to then 2 else if 0 ≤ placeI L (nxtI k x) then 1 else 0)
def trowI (L : List PoseD) (to : PoseD) (i : Nat) (x : PoseD) (r : Nat) : List Move := (List.range r).map (tmvI L to i x)
def tverI (L : List PoseD) (to : PoseD) (i : Nat) : Vers := (List.range i).map fun j => trowI L to j (L.getD j (0, 0)) 4
def turns4 : AV := .sl 4 [n' 0, n' (-1), n' 0, n' 1, n' 1, n' (-1), n' 1, n' 1] .unk
theorem trowI_succ (L : List PoseD) (to : PoseD) (i : Nat) (x : PoseD) (r : Nat) : trowI L to i x (r + 1) = trowI L to i x r ++ [tmvI L to i x r] := by
 unfold trowI; rw [List.range_succ, List.map_append]; rfl
theorem trowI_length (L : List PoseD) (to : PoseD) (i : Nat) (x : PoseD) (r : Nat) : (trowI L to i x r).length = r := by simp [trowI]
theorem tverI_succ {L : List PoseD} (to : PoseD) {i : Nat} {x : PoseD} (h : L[i]? = some x) : tverI L to (i + 1) = tverI L to i ++ [trowI L to i x 4] := by
 unfold tverI
 rw [List.range_succ, List.map_append]
 have e : L.getD i (0, 0) = x := by rw [List.getD_eq_getElem?_getD, h]; rfl
 show _ ++ [trowI L to i (L.getD i (0, 0)) 4] = _
 rw [e]
theorem tverI_length (L : List PoseD) (to : PoseD) (i : Nat) : (tverI L to i).length = i := by simp [tverI]
def mvA (R : Nat) (l : List Move) : AV := .sl l.length (l.flatMap eMove) (.own R l.length 2)
def stA (R : Nat) (v : Vers) : AV := .sl v.length (v.map eState) (.own R v.length 1)
theorem under_mvA {n R : Nat} (l : List Move) (h : R < n) : (mvA R l).under n := ⟨unders_flat _ _, h⟩
theorem mvA_snoc {R : Nat} {L : List PoseD} {to : PoseD} {i : Nat} {x : PoseD} {r : Nat} {u v : Int} (e : tmvI L to i x r = (u, v)) :
  AV.sl ((trowI L to i x r).length + 1) ((trowI L to i x r).flatMap eMove ++ [n' u, n' v]) (.own R ((trowI L to i x r).length + 1) 2) = mvA R (trowI L to i x (r + 1)) := by
 unfold mvA
 rw [trowI_succ, List.length_append, List.flatMap_append, e]; rfl
theorem stA_snoc {R : Nat} {L : List PoseD} {to : PoseD} {i : Nat} {x : PoseD} (h : L[i]? = some x) :
  AV.sl ((tverI L to i).length + 1) ((tverI L to i).map eState ++ [eState (trowI L to i x 4)]) (.own R ((tverI L to i).length + 1) 1) = stA R (tverI L to (i + 1)) := by
 unfold stA
 rw [tverI_succ to h, List.length_append, List.map_append]; rfl
theorem c_turnedK0 {x : PoseD} (hx : -4 ≤ x.1 ∧ x.1 ≤ 4) (H : List Blk) : ACall Tryz.prog 47 [eInts (prL x), .agg [n' 0, n' (-1)]] H (.ret (eInts (prL (nxtI 0 x)))) H := by
 have h := c_turned0 (p := x.1) (q := x.2) (d := -1) (by omega) (by decide) H
 rw [show x.1 + -1 = x.1 - 1 by omega] at h
 exact h
theorem c_turnedK1 {x : PoseD} (hx : -4 ≤ x.1 ∧ x.1 ≤ 4) (H : List Blk) : ACall Tryz.prog 47 [eInts (prL x), .agg [n' 0, n' 1]] H (.ret (eInts (prL (nxtI 1 x)))) H :=
 c_turned0 (p := x.1) (q := x.2) (d := 1) (by omega) (by decide) H
theorem c_turnedK2 {x : PoseD} (hx : -4 ≤ x.2 ∧ x.2 ≤ 4) (H : List Blk) : ACall Tryz.prog 47 [eInts (prL x), .agg [n' 1, n' (-1)]] H (.ret (eInts (prL (nxtI 2 x)))) H := by
 have h := c_turned1 (p := x.1) (q := x.2) (d := -1) (by omega) (by decide) H
 rw [show x.2 + -1 = x.2 - 1 by omega] at h
 exact h
theorem c_turnedK3 {x : PoseD} (hx : -4 ≤ x.2 ∧ x.2 ≤ 4) (H : List Blk) : ACall Tryz.prog 47 [eInts (prL x), .agg [n' 1, n' 1]] H (.ret (eInts (prL (nxtI 3 x)))) H :=
 c_turned1 (p := x.1) (q := x.2) (d := 1) (by omega) (by decide) H
set_option maxHeartbeats 4000000 in
set_option maxRecDepth 100000 in
theorem c_turning (st : Int) (a b : LimbD) (L : List PoseD) (to : PoseD) (hl : L.length ≤ 4) (hb : ∀ x ∈ L, (-4 ≤ x.1 ∧ x.1 ≤ 4) ∧ (-4 ≤ x.2 ∧ x.2 ≤ 4)) (H : List Blk) : ACall Tryz.prog 15 [eFig st a b, ePoses L, eInts (prL to)] H (.ret (eVersion (tverI L to L.length))) H := by
 refine fn_rule (m := false) (fn := Tryz.f15) (c := (Tryz.f15.body).getD .skip) mixed (by kernel_rfl) (by kernel_rfl) (of_decide_eq_true (by kernel_rfl)) ?_ ?_ ?_ H
 ·exact ⟨under_eFig _ _ _ _, under_eLists _ _, under_eInts _ _, trivial⟩
 ·exact under_eVersion _ _
 ·refine CallG.pure _ (c_turns st a b) ?_
  refine LoopG.ghost (LoopG.at (n0 := 4) rfl (LoopG.box 2 [.sl 0 [] (.own 3 0 1)] 2 (leb rfl) (leb rfl) rfl (.cons (Weak.own (r := 3) (g := 0) 1 rfl) (.nil _)) ?_))
  refine loop_up mixed (m := false) (fun i => [(1, ePoses L), (2, eInts (prL to)), (6, .ptr 1 0), (7, turns4), (8, .ptr 2 0), (9, n' (i : Nat))])
   (fun i => [(1, .box [.lit (.slice none 0 0)] 48), (2, .box [stA 3 (tverI L to i)] 48), (3, .row (tverI L to i).length)]) (fun _ => True) L.length 2 (leb rfl) trivial ?_ ?_ ?_
  ·exact ⟨⟨_, rfl, Weak.refl _ _, under_eLists _ _⟩, ⟨_, rfl, Weak.refl _ _, under_eInts _ _⟩, wp rfl (ltb rfl), ⟨_, rfl, Weak.refl _ _, ⟨⟨trivial, trivial, trivial, trivial, trivial, trivial, trivial, trivial, trivial⟩, trivial⟩⟩, wp rfl (ltb rfl), wp rfl trivial, trivial⟩
  ·exact ⟨bk rfl rfl, bk rfl rfl, bk rfl rfl, trivial⟩
  ·intro i hi _
   refine If.mk (fun g => ?_) (fun g => ?_)
   ·refine ifY ?_
    have hi' : i < L.length := by
     have : (i : Int) < ((L.map prL).length : Nat) := g
     rw [poses_len] at this; omega
    obtain ⟨x, hx, _, hxm⟩ := at_some (l := L) (r := i) hi'
    obtain ⟨hx1, hx2⟩ := hb x hxm
    refine LoopG.after (LoopG.ghost (LoopG.at (n0 := 5) rfl ?_))
    refine loop_up mixed (m := false) (fun r => [(1, ePoses L), (2, eInts (prL to)), (6, .ptr 1 0), (7, turns4), (8, .ptr 2 0), (9, n' (i : Nat)), (10, mvA 4 (trowI L to i x r)), (11, n' (r : Nat))])
     (fun r => [(1, .box [.lit (.slice none 0 0)] 48), (2, .box [stA 3 (tverI L to i)] 48), (3, .row (tverI L to i).length), (4, .row (trowI L to i x r).length)]) (fun _ => True) 4 4 (leb rfl) trivial ?_ ?_ ?_
    ·exact ⟨⟨_, rfl, Weak.refl _ _, under_eLists _ _⟩, ⟨_, rfl, Weak.refl _ _, under_eInts _ _⟩, wp rfl (ltb rfl), ⟨_, rfl, Weak.refl _ _, ⟨⟨trivial, trivial, trivial, trivial, trivial, trivial, trivial, trivial, trivial⟩, trivial⟩⟩, wp rfl (ltb rfl), wp rfl trivial, ⟨_, rfl, Weak.own (r := 4) (g := 0) 2 rfl, under_mvA _ (ltb rfl)⟩, wp rfl trivial, trivial⟩
    ·exact ⟨bk rfl rfl, bk rfl rfl, bk rfl rfl, bk rfl rfl, trivial⟩
    ·intro r hr _
     have hr5 : r = 0 ∨ r = 1 ∨ r = 2 ∨ r = 3 ∨ r = 4 := by omega
     rcases hr5 with rfl | rfl | rfl | rfl | rfl
     ·refine If.mk (fun _ => ?_) (fun h => absurd (by decide) h)
      refine ifY ?_
      refine Ex.mk _ (jx_lists (r := i) rfl (poses_at hx)) ?_
      refine Ex.mk _ rfl ?_
      refine Ex.mk _ rfl ?_
      refine Ex.mk _ rfl ?_
      refine CallG.pure _ (c_turnedK0 hx1) ?_
      refine CallG.pure _ (c_place L (nxtI 0 x) (by omega)) ?_
      refine If.mk (fun m1 => ?_) (fun m1 => ?_)
      ·refine ifY ?_
       refine CallG.bool (c_same (prL (nxtI 0 x)) (prL to) (by show 2 < _; decide)) (fun m2 => ?_) (fun m2 => ?_)
       ·refine ifY ?_
        have m2' := prL_inj.1 m2
        refine Ex.mk _ rfl ?_
        refine Side.mk (by unfold fitsK; kernel_rfl) ?_
        exact ⟨leb rfl, rfl, by decide, trivial, ⟨⟨_, rfl, Weak.refl _ _, under_eLists _ _⟩, ⟨_, rfl, Weak.refl _ _, under_eInts _ _⟩, wp rfl (ltb rfl), ⟨_, rfl, Weak.refl _ _, ⟨⟨trivial, trivial, trivial, trivial, trivial, trivial, trivial, trivial, trivial⟩, trivial⟩⟩, wp rfl (ltb rfl), wp rfl trivial, ⟨_, rfl, Weak.of_eq (mvA_snoc (by rw [tmvI, if_pos m1, if_pos m2'])), under_mvA _ (ltb rfl)⟩, wp rfl trivial, trivial⟩, ⟨bk rfl rfl, bk rfl rfl, bk rfl rfl, ⟨by rw [trowI_length, trowI_length]; rfl, ltb rfl⟩, trivial⟩, ⟨⟨_, rfl, trivial⟩, trivial⟩⟩
       ·refine ifN ?_
        have m2' : ¬ nxtI 0 x = to := fun e => m2 (prL_inj.2 e)
        refine Ex.mk _ rfl ?_
        refine Side.mk (by unfold fitsK; kernel_rfl) ?_
        exact ⟨leb rfl, rfl, by decide, trivial, ⟨⟨_, rfl, Weak.refl _ _, under_eLists _ _⟩, ⟨_, rfl, Weak.refl _ _, under_eInts _ _⟩, wp rfl (ltb rfl), ⟨_, rfl, Weak.refl _ _, ⟨⟨trivial, trivial, trivial, trivial, trivial, trivial, trivial, trivial, trivial⟩, trivial⟩⟩, wp rfl (ltb rfl), wp rfl trivial, ⟨_, rfl, Weak.of_eq (mvA_snoc (by rw [tmvI, if_pos m1, if_neg m2', if_pos m1])), under_mvA _ (ltb rfl)⟩, wp rfl trivial, trivial⟩, ⟨bk rfl rfl, bk rfl rfl, bk rfl rfl, ⟨by rw [trowI_length, trowI_length]; rfl, ltb rfl⟩, trivial⟩, ⟨⟨_, rfl, trivial⟩, trivial⟩⟩
      ·refine ifN ?_
       refine CallG.bool (c_same (prL (nxtI 0 x)) (prL to) (by show 2 < _; decide)) (fun m2 => ?_) (fun m2 => ?_)
       ·refine ifY ?_
        have m2' := prL_inj.1 m2
        refine Ex.mk _ rfl ?_
        refine Side.mk (by unfold fitsK; kernel_rfl) ?_
        exact ⟨leb rfl, rfl, by decide, trivial, ⟨⟨_, rfl, Weak.refl _ _, under_eLists _ _⟩, ⟨_, rfl, Weak.refl _ _, under_eInts _ _⟩, wp rfl (ltb rfl), ⟨_, rfl, Weak.refl _ _, ⟨⟨trivial, trivial, trivial, trivial, trivial, trivial, trivial, trivial, trivial⟩, trivial⟩⟩, wp rfl (ltb rfl), wp rfl trivial, ⟨_, rfl, Weak.of_eq (mvA_snoc (by rw [tmvI, if_neg m1, if_pos m2'])), under_mvA _ (ltb rfl)⟩, wp rfl trivial, trivial⟩, ⟨bk rfl rfl, bk rfl rfl, bk rfl rfl, ⟨by rw [trowI_length, trowI_length]; rfl, ltb rfl⟩, trivial⟩, ⟨⟨_, rfl, trivial⟩, trivial⟩⟩
       ·refine ifN ?_
        have m2' : ¬ nxtI 0 x = to := fun e => m2 (prL_inj.2 e)
        refine Ex.mk _ rfl ?_
        refine Side.mk (by unfold fitsK; kernel_rfl) ?_
        exact ⟨leb rfl, rfl, by decide, trivial, ⟨⟨_, rfl, Weak.refl _ _, under_eLists _ _⟩, ⟨_, rfl, Weak.refl _ _, under_eInts _ _⟩, wp rfl (ltb rfl), ⟨_, rfl, Weak.refl _ _, ⟨⟨trivial, trivial, trivial, trivial, trivial, trivial, trivial, trivial, trivial⟩, trivial⟩⟩, wp rfl (ltb rfl), wp rfl trivial, ⟨_, rfl, Weak.of_eq (mvA_snoc (by rw [tmvI, if_neg m1, if_neg m2', if_neg m1])), under_mvA _ (ltb rfl)⟩, wp rfl trivial, trivial⟩, ⟨bk rfl rfl, bk rfl rfl, bk rfl rfl, ⟨by rw [trowI_length, trowI_length]; rfl, ltb rfl⟩, trivial⟩, ⟨⟨_, rfl, trivial⟩, trivial⟩⟩
     ·refine If.mk (fun _ => ?_) (fun h => absurd (by decide) h)
      refine ifY ?_
      refine Ex.mk _ (jx_lists (r := i) rfl (poses_at hx)) ?_
      refine Ex.mk _ rfl ?_
      refine Ex.mk _ rfl ?_
      refine Ex.mk _ rfl ?_
      refine CallG.pure _ (c_turnedK1 hx1) ?_
      refine CallG.pure _ (c_place L (nxtI 1 x) (by omega)) ?_
      refine If.mk (fun m1 => ?_) (fun m1 => ?_)
      ·refine ifY ?_
       refine CallG.bool (c_same (prL (nxtI 1 x)) (prL to) (by show 2 < _; decide)) (fun m2 => ?_) (fun m2 => ?_)
       ·refine ifY ?_
        have m2' := prL_inj.1 m2
        refine Ex.mk _ rfl ?_
        refine Side.mk (by unfold fitsK; kernel_rfl) ?_
        exact ⟨leb rfl, rfl, by decide, trivial, ⟨⟨_, rfl, Weak.refl _ _, under_eLists _ _⟩, ⟨_, rfl, Weak.refl _ _, under_eInts _ _⟩, wp rfl (ltb rfl), ⟨_, rfl, Weak.refl _ _, ⟨⟨trivial, trivial, trivial, trivial, trivial, trivial, trivial, trivial, trivial⟩, trivial⟩⟩, wp rfl (ltb rfl), wp rfl trivial, ⟨_, rfl, Weak.of_eq (mvA_snoc (by rw [tmvI, if_pos m1, if_pos m2'])), under_mvA _ (ltb rfl)⟩, wp rfl trivial, trivial⟩, ⟨bk rfl rfl, bk rfl rfl, bk rfl rfl, ⟨by rw [trowI_length, trowI_length]; rfl, ltb rfl⟩, trivial⟩, ⟨⟨_, rfl, trivial⟩, trivial⟩⟩
       ·refine ifN ?_
        have m2' : ¬ nxtI 1 x = to := fun e => m2 (prL_inj.2 e)
        refine Ex.mk _ rfl ?_
        refine Side.mk (by unfold fitsK; kernel_rfl) ?_
        exact ⟨leb rfl, rfl, by decide, trivial, ⟨⟨_, rfl, Weak.refl _ _, under_eLists _ _⟩, ⟨_, rfl, Weak.refl _ _, under_eInts _ _⟩, wp rfl (ltb rfl), ⟨_, rfl, Weak.refl _ _, ⟨⟨trivial, trivial, trivial, trivial, trivial, trivial, trivial, trivial, trivial⟩, trivial⟩⟩, wp rfl (ltb rfl), wp rfl trivial, ⟨_, rfl, Weak.of_eq (mvA_snoc (by rw [tmvI, if_pos m1, if_neg m2', if_pos m1])), under_mvA _ (ltb rfl)⟩, wp rfl trivial, trivial⟩, ⟨bk rfl rfl, bk rfl rfl, bk rfl rfl, ⟨by rw [trowI_length, trowI_length]; rfl, ltb rfl⟩, trivial⟩, ⟨⟨_, rfl, trivial⟩, trivial⟩⟩
      ·refine ifN ?_
       refine CallG.bool (c_same (prL (nxtI 1 x)) (prL to) (by show 2 < _; decide)) (fun m2 => ?_) (fun m2 => ?_)
       ·refine ifY ?_
        have m2' := prL_inj.1 m2
        refine Ex.mk _ rfl ?_
        refine Side.mk (by unfold fitsK; kernel_rfl) ?_
        exact ⟨leb rfl, rfl, by decide, trivial, ⟨⟨_, rfl, Weak.refl _ _, under_eLists _ _⟩, ⟨_, rfl, Weak.refl _ _, under_eInts _ _⟩, wp rfl (ltb rfl), ⟨_, rfl, Weak.refl _ _, ⟨⟨trivial, trivial, trivial, trivial, trivial, trivial, trivial, trivial, trivial⟩, trivial⟩⟩, wp rfl (ltb rfl), wp rfl trivial, ⟨_, rfl, Weak.of_eq (mvA_snoc (by rw [tmvI, if_neg m1, if_pos m2'])), under_mvA _ (ltb rfl)⟩, wp rfl trivial, trivial⟩, ⟨bk rfl rfl, bk rfl rfl, bk rfl rfl, ⟨by rw [trowI_length, trowI_length]; rfl, ltb rfl⟩, trivial⟩, ⟨⟨_, rfl, trivial⟩, trivial⟩⟩
       ·refine ifN ?_
        have m2' : ¬ nxtI 1 x = to := fun e => m2 (prL_inj.2 e)
        refine Ex.mk _ rfl ?_
        refine Side.mk (by unfold fitsK; kernel_rfl) ?_
        exact ⟨leb rfl, rfl, by decide, trivial, ⟨⟨_, rfl, Weak.refl _ _, under_eLists _ _⟩, ⟨_, rfl, Weak.refl _ _, under_eInts _ _⟩, wp rfl (ltb rfl), ⟨_, rfl, Weak.refl _ _, ⟨⟨trivial, trivial, trivial, trivial, trivial, trivial, trivial, trivial, trivial⟩, trivial⟩⟩, wp rfl (ltb rfl), wp rfl trivial, ⟨_, rfl, Weak.of_eq (mvA_snoc (by rw [tmvI, if_neg m1, if_neg m2', if_neg m1])), under_mvA _ (ltb rfl)⟩, wp rfl trivial, trivial⟩, ⟨bk rfl rfl, bk rfl rfl, bk rfl rfl, ⟨by rw [trowI_length, trowI_length]; rfl, ltb rfl⟩, trivial⟩, ⟨⟨_, rfl, trivial⟩, trivial⟩⟩
     ·refine If.mk (fun _ => ?_) (fun h => absurd (by decide) h)
      refine ifY ?_
      refine Ex.mk _ (jx_lists (r := i) rfl (poses_at hx)) ?_
      refine Ex.mk _ rfl ?_
      refine Ex.mk _ rfl ?_
      refine Ex.mk _ rfl ?_
      refine CallG.pure _ (c_turnedK2 hx2) ?_
      refine CallG.pure _ (c_place L (nxtI 2 x) (by omega)) ?_
      refine If.mk (fun m1 => ?_) (fun m1 => ?_)
      ·refine ifY ?_
       refine CallG.bool (c_same (prL (nxtI 2 x)) (prL to) (by show 2 < _; decide)) (fun m2 => ?_) (fun m2 => ?_)
       ·refine ifY ?_
        have m2' := prL_inj.1 m2
        refine Ex.mk _ rfl ?_
        refine Side.mk (by unfold fitsK; kernel_rfl) ?_
        exact ⟨leb rfl, rfl, by decide, trivial, ⟨⟨_, rfl, Weak.refl _ _, under_eLists _ _⟩, ⟨_, rfl, Weak.refl _ _, under_eInts _ _⟩, wp rfl (ltb rfl), ⟨_, rfl, Weak.refl _ _, ⟨⟨trivial, trivial, trivial, trivial, trivial, trivial, trivial, trivial, trivial⟩, trivial⟩⟩, wp rfl (ltb rfl), wp rfl trivial, ⟨_, rfl, Weak.of_eq (mvA_snoc (by rw [tmvI, if_pos m1, if_pos m2'])), under_mvA _ (ltb rfl)⟩, wp rfl trivial, trivial⟩, ⟨bk rfl rfl, bk rfl rfl, bk rfl rfl, ⟨by rw [trowI_length, trowI_length]; rfl, ltb rfl⟩, trivial⟩, ⟨⟨_, rfl, trivial⟩, trivial⟩⟩
       ·refine ifN ?_
        have m2' : ¬ nxtI 2 x = to := fun e => m2 (prL_inj.2 e)
        refine Ex.mk _ rfl ?_
        refine Side.mk (by unfold fitsK; kernel_rfl) ?_
        exact ⟨leb rfl, rfl, by decide, trivial, ⟨⟨_, rfl, Weak.refl _ _, under_eLists _ _⟩, ⟨_, rfl, Weak.refl _ _, under_eInts _ _⟩, wp rfl (ltb rfl), ⟨_, rfl, Weak.refl _ _, ⟨⟨trivial, trivial, trivial, trivial, trivial, trivial, trivial, trivial, trivial⟩, trivial⟩⟩, wp rfl (ltb rfl), wp rfl trivial, ⟨_, rfl, Weak.of_eq (mvA_snoc (by rw [tmvI, if_pos m1, if_neg m2', if_pos m1])), under_mvA _ (ltb rfl)⟩, wp rfl trivial, trivial⟩, ⟨bk rfl rfl, bk rfl rfl, bk rfl rfl, ⟨by rw [trowI_length, trowI_length]; rfl, ltb rfl⟩, trivial⟩, ⟨⟨_, rfl, trivial⟩, trivial⟩⟩
      ·refine ifN ?_
       refine CallG.bool (c_same (prL (nxtI 2 x)) (prL to) (by show 2 < _; decide)) (fun m2 => ?_) (fun m2 => ?_)
       ·refine ifY ?_
        have m2' := prL_inj.1 m2
        refine Ex.mk _ rfl ?_
        refine Side.mk (by unfold fitsK; kernel_rfl) ?_
        exact ⟨leb rfl, rfl, by decide, trivial, ⟨⟨_, rfl, Weak.refl _ _, under_eLists _ _⟩, ⟨_, rfl, Weak.refl _ _, under_eInts _ _⟩, wp rfl (ltb rfl), ⟨_, rfl, Weak.refl _ _, ⟨⟨trivial, trivial, trivial, trivial, trivial, trivial, trivial, trivial, trivial⟩, trivial⟩⟩, wp rfl (ltb rfl), wp rfl trivial, ⟨_, rfl, Weak.of_eq (mvA_snoc (by rw [tmvI, if_neg m1, if_pos m2'])), under_mvA _ (ltb rfl)⟩, wp rfl trivial, trivial⟩, ⟨bk rfl rfl, bk rfl rfl, bk rfl rfl, ⟨by rw [trowI_length, trowI_length]; rfl, ltb rfl⟩, trivial⟩, ⟨⟨_, rfl, trivial⟩, trivial⟩⟩
       ·refine ifN ?_
        have m2' : ¬ nxtI 2 x = to := fun e => m2 (prL_inj.2 e)
        refine Ex.mk _ rfl ?_
        refine Side.mk (by unfold fitsK; kernel_rfl) ?_
        exact ⟨leb rfl, rfl, by decide, trivial, ⟨⟨_, rfl, Weak.refl _ _, under_eLists _ _⟩, ⟨_, rfl, Weak.refl _ _, under_eInts _ _⟩, wp rfl (ltb rfl), ⟨_, rfl, Weak.refl _ _, ⟨⟨trivial, trivial, trivial, trivial, trivial, trivial, trivial, trivial, trivial⟩, trivial⟩⟩, wp rfl (ltb rfl), wp rfl trivial, ⟨_, rfl, Weak.of_eq (mvA_snoc (by rw [tmvI, if_neg m1, if_neg m2', if_neg m1])), under_mvA _ (ltb rfl)⟩, wp rfl trivial, trivial⟩, ⟨bk rfl rfl, bk rfl rfl, bk rfl rfl, ⟨by rw [trowI_length, trowI_length]; rfl, ltb rfl⟩, trivial⟩, ⟨⟨_, rfl, trivial⟩, trivial⟩⟩
     ·refine If.mk (fun _ => ?_) (fun h => absurd (by decide) h)
      refine ifY ?_
      refine Ex.mk _ (jx_lists (r := i) rfl (poses_at hx)) ?_
      refine Ex.mk _ rfl ?_
      refine Ex.mk _ rfl ?_
      refine Ex.mk _ rfl ?_
      refine CallG.pure _ (c_turnedK3 hx2) ?_
      refine CallG.pure _ (c_place L (nxtI 3 x) (by omega)) ?_
      refine If.mk (fun m1 => ?_) (fun m1 => ?_)
      ·refine ifY ?_
       refine CallG.bool (c_same (prL (nxtI 3 x)) (prL to) (by show 2 < _; decide)) (fun m2 => ?_) (fun m2 => ?_)
       ·refine ifY ?_
        have m2' := prL_inj.1 m2
        refine Ex.mk _ rfl ?_
        refine Side.mk (by unfold fitsK; kernel_rfl) ?_
        exact ⟨leb rfl, rfl, by decide, trivial, ⟨⟨_, rfl, Weak.refl _ _, under_eLists _ _⟩, ⟨_, rfl, Weak.refl _ _, under_eInts _ _⟩, wp rfl (ltb rfl), ⟨_, rfl, Weak.refl _ _, ⟨⟨trivial, trivial, trivial, trivial, trivial, trivial, trivial, trivial, trivial⟩, trivial⟩⟩, wp rfl (ltb rfl), wp rfl trivial, ⟨_, rfl, Weak.of_eq (mvA_snoc (by rw [tmvI, if_pos m1, if_pos m2'])), under_mvA _ (ltb rfl)⟩, wp rfl trivial, trivial⟩, ⟨bk rfl rfl, bk rfl rfl, bk rfl rfl, ⟨by rw [trowI_length, trowI_length]; rfl, ltb rfl⟩, trivial⟩, ⟨⟨_, rfl, trivial⟩, trivial⟩⟩
       ·refine ifN ?_
        have m2' : ¬ nxtI 3 x = to := fun e => m2 (prL_inj.2 e)
        refine Ex.mk _ rfl ?_
        refine Side.mk (by unfold fitsK; kernel_rfl) ?_
        exact ⟨leb rfl, rfl, by decide, trivial, ⟨⟨_, rfl, Weak.refl _ _, under_eLists _ _⟩, ⟨_, rfl, Weak.refl _ _, under_eInts _ _⟩, wp rfl (ltb rfl), ⟨_, rfl, Weak.refl _ _, ⟨⟨trivial, trivial, trivial, trivial, trivial, trivial, trivial, trivial, trivial⟩, trivial⟩⟩, wp rfl (ltb rfl), wp rfl trivial, ⟨_, rfl, Weak.of_eq (mvA_snoc (by rw [tmvI, if_pos m1, if_neg m2', if_pos m1])), under_mvA _ (ltb rfl)⟩, wp rfl trivial, trivial⟩, ⟨bk rfl rfl, bk rfl rfl, bk rfl rfl, ⟨by rw [trowI_length, trowI_length]; rfl, ltb rfl⟩, trivial⟩, ⟨⟨_, rfl, trivial⟩, trivial⟩⟩
      ·refine ifN ?_
       refine CallG.bool (c_same (prL (nxtI 3 x)) (prL to) (by show 2 < _; decide)) (fun m2 => ?_) (fun m2 => ?_)
       ·refine ifY ?_
        have m2' := prL_inj.1 m2
        refine Ex.mk _ rfl ?_
        refine Side.mk (by unfold fitsK; kernel_rfl) ?_
        exact ⟨leb rfl, rfl, by decide, trivial, ⟨⟨_, rfl, Weak.refl _ _, under_eLists _ _⟩, ⟨_, rfl, Weak.refl _ _, under_eInts _ _⟩, wp rfl (ltb rfl), ⟨_, rfl, Weak.refl _ _, ⟨⟨trivial, trivial, trivial, trivial, trivial, trivial, trivial, trivial, trivial⟩, trivial⟩⟩, wp rfl (ltb rfl), wp rfl trivial, ⟨_, rfl, Weak.of_eq (mvA_snoc (by rw [tmvI, if_neg m1, if_pos m2'])), under_mvA _ (ltb rfl)⟩, wp rfl trivial, trivial⟩, ⟨bk rfl rfl, bk rfl rfl, bk rfl rfl, ⟨by rw [trowI_length, trowI_length]; rfl, ltb rfl⟩, trivial⟩, ⟨⟨_, rfl, trivial⟩, trivial⟩⟩
       ·refine ifN ?_
        have m2' : ¬ nxtI 3 x = to := fun e => m2 (prL_inj.2 e)
        refine Ex.mk _ rfl ?_
        refine Side.mk (by unfold fitsK; kernel_rfl) ?_
        exact ⟨leb rfl, rfl, by decide, trivial, ⟨⟨_, rfl, Weak.refl _ _, under_eLists _ _⟩, ⟨_, rfl, Weak.refl _ _, under_eInts _ _⟩, wp rfl (ltb rfl), ⟨_, rfl, Weak.refl _ _, ⟨⟨trivial, trivial, trivial, trivial, trivial, trivial, trivial, trivial, trivial⟩, trivial⟩⟩, wp rfl (ltb rfl), wp rfl trivial, ⟨_, rfl, Weak.of_eq (mvA_snoc (by rw [tmvI, if_neg m1, if_neg m2', if_neg m1])), under_mvA _ (ltb rfl)⟩, wp rfl trivial, trivial⟩, ⟨bk rfl rfl, bk rfl rfl, bk rfl rfl, ⟨by rw [trowI_length, trowI_length]; rfl, ltb rfl⟩, trivial⟩, ⟨⟨_, rfl, trivial⟩, trivial⟩⟩
     ·refine If.mk (fun h => absurd h (by decide)) (fun _ => ?_)
      refine ifN ?_
      refine ⟨leb rfl, .inr ⟨[(1, ePoses L), (2, eInts (prL to)), (6, .ptr 1 0), (7, turns4), (8, .ptr 2 0), (9, n' (i : Nat)), (10, eState (trowI L to i x 4))],
       ⟨⟨_, rfl, Weak.refl _ _⟩, ⟨_, rfl, Weak.refl _ _⟩, ⟨_, rfl, Weak.refl _ _⟩, ⟨_, rfl, Weak.refl _ _⟩, ⟨_, rfl, Weak.refl _ _⟩, ⟨_, rfl, Weak.refl _ _⟩, ⟨_, rfl, Weak.tail _ _ _ _⟩, trivial⟩, ?_⟩⟩
      refine ex_app _ _ (app_state (List.length_map _) (by rw [tverI_length]; omega) rfl) ?_
      refine Side.mk (fits64 (by omega)) ?_
      exact ⟨leb rfl, rfl, hi', trivial, ⟨⟨_, rfl, Weak.refl _ _, under_eLists _ _⟩, ⟨_, rfl, Weak.refl _ _, under_eInts _ _⟩, wp rfl (ltb rfl), ⟨_, rfl, Weak.refl _ _, ⟨⟨trivial, trivial, trivial, trivial, trivial, trivial, trivial, trivial, trivial⟩, trivial⟩⟩, wp rfl (ltb rfl), ⟨_, rfl, Weak.of_eq (congrArg n' (by omega)), trivial⟩, trivial⟩,
       ⟨bk rfl rfl, ⟨congrArg (fun z => some (Blk.box [z] 48)) (stA_snoc hx), ltb rfl⟩, ⟨by rw [tverI_length, tverI_length]; rfl, ltb rfl⟩, trivial⟩, ⟨⟨_, rfl, ⟨unders_append (unders_map (under_state _) _) ⟨under_state _ _, trivial⟩, ltb rfl⟩, trivial⟩, ⟨_, rfl, trivial⟩, trivial⟩⟩
   ·refine ifN ?_
    have g' : ¬ (i : Int) < ((L.map prL).length : Nat) := g
    rw [poses_len] at g'
    obtain rfl : i = L.length := by omega
    refine ⟨leb rfl, .inl rfl, FinG.mk _ rfl rfl ?_⟩
    show AV.agg [AV.sl _ (AV.freezes _ ((tverI L to L.length).map eState)) .unk] = eVersion _
    rw [freezes_map (f := eState) (fun y => by
     show AV.sl y.length (AV.freezes _ (y.flatMap eMove)) .unk = eState y
     rw [freezes_flat]
     rfl)]
    rfl
end Go.Vm
