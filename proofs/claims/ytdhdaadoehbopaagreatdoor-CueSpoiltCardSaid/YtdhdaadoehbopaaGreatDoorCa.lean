/-
  Contracts of functions of packages kelirlaw04, kelirref04, kelirref02, cue and slices: for books and lists as told at each, in every heap, they return what is told. Conditions: at each theorem.
-/
import Derived.Test.YtdhdaadoehbopaaGreatDoorVr
import Derived.Laws.Runes
import Derived.Test.YtdhdaadoehbopaaGreatDoorVc
import Derived.KernelRfl

namespace Go.Vm
open Go.Proofs
theorem ltb {a b : Nat} (h : Nat.blt a b = true) : a < b := Nat.le_of_ble_eq_true h
theorem leb {a b : Nat} (h : Nat.ble a b = true) : a ≤ b := Nat.le_of_ble_eq_true h
theorem fits64 {n : Int} (h : -9223372036854775808 ≤ n ∧ n < 9223372036854775808) : fitsK .i64 n := by
 unfold fitsK
 simp only [IntKind.wrap, IntKind.bits, IntKind.signed]
 simp
 omega
theorem appT_own {P : Program} {g : Nat → Option Blk} {n sT xT e size bytes len k id gen : Nat} {z : Value} {cells new : List AV} {x : AV} (h1 : tslice P sT = some e) (h2 : tsz P e = some size) (h3 : tz P e = some z) (h4 : tbytes P e = some bytes)
  (h5 : (tsrc P xT && (decide (bytes ≤ 2097152) && decide (z.cells.size = size))) = true) (h6 : srcT g size x = some (k, new)) (h7 : 0 < k) (h8 : cells.length = len * size) (h9 : len + k ≤ 2097152) (h10 : g id = some (.row gen)) (h11 : new.all AV.one = true) :
  appT P false g n sT xT (.sl len cells (.own id gen size)) x = some (.sl (len + k) (cells ++ new) (.own id (gen + 1) size), .set id (.row (gen + 1))) := by
 unfold appT
 simp only [h1, h2, h3, h4, h5, h6, h10, h11, if_true]
 rw [if_neg (by omega), if_pos ⟨h8, h9⟩, if_pos ⟨trivial, trivial, trivial⟩]
theorem ex_app {x : Option (AV × Dl)} {K : DR → Prop} (v : AV) (d : Dl) (h : x = some (v, d)) (k : K (.val v d)) : Ex (x.map fun p => DR.val p.1 p.2) K :=
 ⟨_, by rw [h]; rfl, k⟩
theorem CallG.bool {P : Program} {f : FuncId} {args : List AV} {t : Trie Blk} {n : Nat} {K Kp : AV → Trie Blk → Nat → Nat → Prop} {p : Prop} [Decidable p] (h : ∀ H, ACall P f args H (.ret (.lit (.bool (decide p)))) H)
  (k1 : p → K (.lit (.bool true)) t n noLo) (k2 : ¬ p → K (.lit (.bool false)) t n noLo) : CallG P f args t n K Kp := by
 by_cases hp : p
 ·rw [decide_eq_true hp] at h; exact .pure _ h (k1 hp)
 ·rw [decide_eq_false hp] at h; exact .pure _ h (k2 hp)
theorem FinG.bool {P : Program} {rs : List ResultVar} {e : ES} {p : Prop} [Decidable p] {b : Bool} (h : resT P (get e.t) e.vars rs = some [.lit (.bool b)]) (hd : e.defs = []) (hb : p ↔ b = true) : FinG P rs e (.lit (.bool (decide p))) := by
 refine ⟨_, h, hd, ?_⟩
 show AV.lit (.bool b) = _
 cases b with
 | true => rw [decide_eq_true (hb.2 rfl)]
 | false => rw [decide_eq_false (fun x => by cases hb.1 x)]
theorem FinG.yes {P : Program} {rs : List ResultVar} {e : ES} {p : Prop} [Decidable p] (h : resT P (get e.t) e.vars rs = some [.lit (.bool true)]) (hd : e.defs = []) (hb : p) : FinG P rs e (.lit (.bool (decide p))) := .bool h hd ⟨fun _ => rfl, fun _ => hb⟩
theorem FinG.no {P : Program} {rs : List ResultVar} {e : ES} {p : Prop} [Decidable p] (h : resT P (get e.t) e.vars rs = some [.lit (.bool false)]) (hd : e.defs = []) (hb : ¬ p) : FinG P rs e (.lit (.bool (decide p))) := .bool h hd ⟨fun x => absurd x hb, fun x => by cases x⟩
theorem Weak.of_eq {t : Trie Blk} {v v' : AV} (h : v = v') : Weak t v v' := h ▸ Weak.refl t v
theorem at_ints {P : Program} {t : TypeId} (hu : P.underlying t = some (.slice 3)) (hs : tsz P 3 = some 1) {l : List Int} {tl : Tail} {i : Int} {r : Nat} (hi : i = r) (h : r < l.length) : indexOp P t (.sl l.length (l.map n') tl) (.lit (.int .i64 i)) = some (.eptr [n' l[r]]) := by
 subst hi
 refine (indexOp_sl hu hs ⟨by omega, by omega, by rw [List.length_map]; omega, by omega⟩).trans ?_
 rw [Int.toNat_natCast]
 exact congrArg (fun x => some (AV.eptr x)) (map_at (List.getElem?_eq_getElem _))
end Go.Vm

namespace Go.Vm
open Go.Proofs
theorem ix_ints {l : List Int} {tl : Tail} {i : Int} {r : Nat} (hi : i = r) (h : r < l.length) : indexOp Tryz.prog 25 (.sl l.length (l.map n') tl) (.lit (.int .i64 i)) = some (.eptr [n' l[r]]) :=
 at_ints (by kernel_rfl) (by kernel_rfl) hi h
theorem ix_one {α : Type} {P : Program} {t e : TypeId} {f : α → AV} (hu : P.underlying t = some (.slice e)) (hs : tsz P e = some 1) {l : List α} {tl : Tail} {i : Int} {r : Nat} (hi : i = r) (h : r < l.length) : indexOp P t (.sl l.length (l.map f) tl) (.lit (.int .i64 i)) = some (.eptr [f l[r]]) := by
 subst hi
 refine (indexOp_sl hu hs ⟨by omega, by omega, by rw [List.length_map]; omega, by omega⟩).trans ?_
 rw [Int.toNat_natCast]
 exact congrArg (fun x => some (AV.eptr x)) (map_at (List.getElem?_eq_getElem _))
theorem ix_versions {l : List Vers} {tl : Tail} {i : Int} {r : Nat} (hi : i = r) (h : r < l.length) : indexOp Tryz.prog 22 (.sl l.length (l.map eStates) tl) (.lit (.int .i64 i)) = some (.eptr [eStates l[r]]) :=
 ix_one (e := 32) (by kernel_rfl) (by kernel_rfl) hi h
theorem ix_states {l : Vers} {tl : Tail} {i : Int} {r : Nat} (hi : i = r) (h : r < l.length) : indexOp Tryz.prog 30 (.sl l.length (l.map eState) tl) (.lit (.int .i64 i)) = some (.eptr [eState l[r]]) :=
 ix_one (e := 113) (by kernel_rfl) (by kernel_rfl) hi h
theorem ix_moves {l : List Move} {tl : Tail} {i : Int} {r : Nat} (hi : i = r) (h : r < l.length) : indexOp Tryz.prog 113 (.sl l.length (l.flatMap eMove) tl) (.lit (.int .i64 i)) = some (.eptr (eMove l[r])) := by
 subst hi
 refine (indexOp_sl (elem := 116) (n := 2) (by kernel_rfl) (by kernel_rfl) ⟨by omega, by omega, by rw [flat_length, Int.toNat_natCast]; omega, by omega⟩).trans ?_
 rw [Int.toNat_natCast, flat_at (List.getElem?_eq_getElem h)]
theorem take_snoc {α : Type} {l : List α} {r : Nat} (h : r < l.length) : l.take (r + 1) = l.take r ++ [l[r]] := by
 rw [List.take_add_one, List.getElem?_eq_getElem h]; rfl
theorem all_snoc {α : Type} {l : List α} {p : α → Prop} {r : Nat} (h : r < l.length) (hI : ∀ x ∈ l.take r, p x) (hp : p l[r]) : ∀ x ∈ l.take (r + 1), p x := by
 intro x hx
 rw [take_snoc h] at hx
 rcases List.mem_append.1 hx with hx | hx
 ·exact hI x hx
 ·rw [List.mem_singleton] at hx; subst hx; exact hp
theorem all_end {α : Type} {l : List α} {p : α → Prop} {r : Nat} (h : l.length ≤ r) (hI : ∀ x ∈ l.take r, p x) : ∀ x ∈ l, p x := by
 rwa [List.take_of_length_le h] at hI
def inI (a b c : Int) : Prop := b ≤ a ∧ a ≤ c
instance (a b c : Int) : Decidable (inI a b c) := by unfold inI; infer_instance
def StOk (b : Book) (v : Vers) (s : List Move) : Prop := (s.length : Int) = b.cues ∧ ∀ m ∈ s, inI m.1 0 (v.length - 1) ∧ inI m.2 0 (b.tunes - 1)
def VOk (b : Book) (v : Vers) : Prop := (∀ s ∈ v, StOk b v s) ∧ inI v.length 1 4
def BOk (b : Book) : Prop := (inI b.cues 1 4 ∧ inI b.tunes 1 6 ∧ inI b.vs.length 1 4) ∧ ∀ v ∈ b.vs, VOk b v
def LCues (b : Book) (l : List Int) : Prop := ∀ c ∈ l, inI c 0 (b.cues - 1)
def LList (b : Book) (l : List Int) : Prop := (l.length : Int) ≤ 8 ∧ LCues b l
def LTunes (b : Book) (l : List Int) : Prop := (∀ c ∈ l, c ≠ -1 → inI c 0 (b.tunes - 1)) ∧ (l.length : Int) ≤ 8
def EvOk (b : Book) (e : Evening) : Prop := (LList b e.1 ∧ LTunes b e.2) ∧ (e.1.length : Int) = e.2.length
def EvsOk (b : Book) (l : List Evening) : Prop := (∀ e ∈ l, EvOk b e) ∧ (l.length : Int) ≤ 4
instance (b : Book) (v : Vers) (s : List Move) : Decidable (StOk b v s) := by unfold StOk; infer_instance
instance (b : Book) (v : Vers) : Decidable (VOk b v) := by unfold VOk; infer_instance
instance (b : Book) : Decidable (BOk b) := by unfold BOk; infer_instance
instance (b : Book) (l : List Int) : Decidable (LCues b l) := by unfold LCues; infer_instance
instance (b : Book) (l : List Int) : Decidable (LList b l) := by unfold LList; infer_instance
instance (b : Book) (l : List Int) : Decidable (LTunes b l) := by unfold LTunes; infer_instance
instance (b : Book) (e : Evening) : Decidable (EvOk b e) := by unfold EvOk; infer_instance
instance (b : Book) (l : List Evening) : Decidable (EvsOk b l) := by unfold EvsOk; infer_instance
def BFit (b : Book) : Prop := -9223372036854775808 < b.cues ∧ b.cues < 9223372036854775808 ∧ -9223372036854775808 < b.tunes ∧ b.tunes < 9223372036854775808 ∧ b.vs.length < 4611686018427387904
def bBox (b : Book) : Blk := .box [n' b.cues, n' b.tunes, eVersions b.vs] 24
theorem bBox_under (n : Nat) (b : Book) : (bBox b).under n := under_eBook n b
set_option maxRecDepth 100000 in
theorem c_rin (a b c : Int) (H : List Blk) : ACall Tryz.prog 87 [n' a, n' b, n' c] H (.ret (.lit (.bool (decide (inI a b c))))) H := by
 refine fn_rule (m := false) (fn := Tryz.f87) (c := (Tryz.f87.body).getD .skip) mixed (by kernel_rfl) (by kernel_rfl) (of_decide_eq_true (by kernel_rfl)) ?_ ?_ ?_ H
 ·exact ⟨trivial, trivial, trivial, trivial⟩
 ·trivial
 ·refine If.mk (fun h => ?_) (fun h => ?_)
  ·refine If.mk (fun h2 => ?_) (fun h2 => ?_)
   ·exact ⟨.inl rfl, FinG.yes rfl rfl (⟨h, h2⟩)⟩
   ·exact ⟨.inl rfl, FinG.no rfl rfl (fun e => h2 e.2)⟩
  ·exact ⟨.inl rfl, FinG.no rfl rfl (fun e => h e.1)⟩
set_option maxRecDepth 100000 in
theorem c_tune {b : Book} (hb : BFit b) (n : Int) (H : List Blk) : ACall Tryz.prog 75 [eBook b, n' n] H (.ret (.lit (.bool (decide (inI n 0 (b.tunes - 1)))))) H := by
 obtain ⟨hb1, hb2, hb3, hb4, hb5⟩ := hb
 refine fn_rule (m := false) (fn := Tryz.f75) (c := (Tryz.f75.body).getD .skip) mixed (by kernel_rfl) (by kernel_rfl) (of_decide_eq_true (by kernel_rfl)) ?_ ?_ ?_ H
 ·exact ⟨under_eBook 0 _, trivial, trivial⟩
 ·trivial
 ·refine Side.mk (fits64 (by omega)) ?_
  refine CallG.pure _ (c_rin _ _ _) ?_
  exact ⟨.inl rfl, FinG.mk _ rfl rfl rfl⟩
end Go.Vm

namespace Go.Vm
open Go.Proofs
def idxOf {α : Type} (p : α → Prop) [DecidablePred p] : List α → Int
 | [] => -1
 | x :: l => if p x then 0 else if 0 ≤ idxOf p l then idxOf p l + 1 else -1
theorem idx_nonneg {α : Type} {p : α → Prop} [DecidablePred p] : ∀ {l : List α}, 0 ≤ idxOf p l ↔ ∃ x ∈ l, p x
 | [] => by simp [idxOf]
 | x :: l => by
  have ih := idx_nonneg (p := p) (l := l)
  unfold idxOf
  by_cases h : p x
  ·rw [if_pos h]
   exact ⟨fun _ => ⟨x, List.mem_cons_self, h⟩, fun _ => by omega⟩
  ·rw [if_neg h]
   by_cases h2 : 0 ≤ idxOf p l
   ·rw [if_pos h2]
    obtain ⟨y, hy, hp⟩ := ih.1 h2
    exact ⟨fun _ => ⟨y, List.mem_cons_of_mem _ hy, hp⟩, fun _ => by omega⟩
   ·rw [if_neg h2]
    refine ⟨fun x => by omega, fun ⟨y, hy, hp⟩ => ?_⟩
    rcases List.mem_cons.1 hy with rfl | hy
    ·exact absurd hp h
    ·exact absurd (ih.2 ⟨y, hy, hp⟩) h2
theorem idx_miss {α : Type} {p : α → Prop} [DecidablePred p] : ∀ {l : List α}, (∀ x ∈ l, ¬ p x) → idxOf p l = -1
 | [], _ => rfl
 | x :: l, h => by
  have ih := idx_miss (p := p) (l := l) (fun y hy => h y (List.mem_cons_of_mem _ hy))
  unfold idxOf
  rw [if_neg (h x List.mem_cons_self), if_neg (by omega)]
theorem idx_hit {α : Type} {p : α → Prop} [DecidablePred p] : ∀ {l : List α} {r : Nat} (hr : r < l.length), (∀ x ∈ l.take r, ¬ p x) → p l[r] → idxOf p l = r
 | [], r, hr, _, _ => by simp at hr
 | x :: l, 0, _, _, hp => by
  unfold idxOf
  have hp' : p x := hp
  rw [if_pos hp']; rfl
 | x :: l, r + 1, hr, h, hp => by
  have hr' : r < l.length := by simpa using hr
  have ih := idx_hit (p := p) (l := l) hr' (fun y hy => h y (by rw [List.take_succ_cons]; exact List.mem_cons_of_mem _ hy)) hp
  have hx : ¬ p x := h x (by rw [List.take_succ_cons]; exact List.mem_cons_self)
  unfold idxOf
  rw [if_neg hx, ih, if_pos (by omega)]
  omega
def eMoveA (m : Move) : AV := .agg (eMove m)
def clo (f : FuncId) (caps : List AV) : AV := .fn (.func f) [] caps
set_option maxRecDepth 100000 in
theorem c_indexV {L0 : List (Nat × Blk)} {n0 : Nat} (hn : n0 ≤ noLo) (hL0 : Blks (get (ofL L0)) n0 L0) (fc : FuncId) (caps : List AV) (hcaps : AV.unders n0 caps) (p : Vers → Prop) [DecidablePred p] (l : List (Vers)) (hl : l.length < 4611686018427387904) (hcal : callable Tryz.prog fc = true)
  (hf : ∀ x ∈ l, ∀ H, HT (ofL L0) n0 H → ACall Tryz.prog fc (eVersion x :: caps) H (.ret (.lit (.bool (decide (p x))))) H) (H : List Blk) (hH : HT (ofL L0) n0 H) : ACall Tryz.prog 191 [eVersions l, clo fc caps] H (.ret (n' (idxOf p l))) H := by
 refine fn_at (m := false) (fn := Tryz.f191) (c := (Tryz.f191.body).getD .skip) mixed (by kernel_rfl) (by kernel_rfl) (of_decide_eq_true (by kernel_rfl)) rfl ?_ H hH
 refine loop_up mixed (m := false) (fun r => [(0, eVersions l), (1, clo fc caps), (7, n' l.length), (8, n' r)]) (fun _ => L0) (fun r => ∀ x ∈ l.take r, ¬ p x) l.length noLo (leb rfl) (fun _ h => by simp at h) ?_ ?_ ?_
 ·exact ⟨⟨_, rfl, Weak.refl _ _, under_eVersions _ _⟩, ⟨_, rfl, Weak.refl _ _, ⟨trivial, by rw [AV.unders_mem] at hcaps ⊢; exact fun a ha => AV.under_mono hn a (hcaps a ha)⟩⟩, wp rfl trivial, wp rfl trivial, trivial⟩
 ·exact hL0.mono hn
 ·intro r hr hI
  refine If.mk (fun h1 => ?_) (fun h1 => ?_)
  ·refine ifY ?_
   refine Ex.mk _ (ix_versions (r := r) rfl (by omega)) ?_
   refine Ex.mk _ rfl ?_
   have hr' : r < l.length := by omega
   refine bif_mk hcal ?_
   refine CallG.atB (p := p l[r]) (hf _ (List.getElem_mem hr')) (fun h => ?_) (fun h => ?_)
   ·refine ifY ?_
    refine ⟨leb rfl, .inl rfl, hn, FinF.mk _ rfl rfl ?_⟩
    show n' (r : Nat) = _
    rw [idx_hit hr' hI h]
   ·refine ifN ?_
    refine Side.mk (fits64 (by omega)) ?_
    refine ⟨leb rfl, rfl, hr', all_snoc (p := fun x => ¬ p x) hr' hI h, ⟨⟨_, rfl, Weak.refl _ _, under_eVersions _ _⟩, ⟨_, rfl, Weak.refl _ _, ⟨trivial, hcaps⟩⟩, wp rfl trivial, wp rfl trivial, trivial⟩, hL0, ?_⟩
    rw [show n0 - noLo = 0 by omega]
    exact trivial
  ·refine ifN ?_
   refine ⟨leb rfl, .inl rfl, hn, FinF.mk _ rfl rfl ?_⟩
   show n' (-1) = _
   rw [idx_miss (all_end (p := fun x => ¬ p x) (by omega) hI)]
set_option maxRecDepth 100000 in
theorem c_containsV {L0 : List (Nat × Blk)} {n0 : Nat} (hn : n0 ≤ noLo) (hL0 : Blks (get (ofL L0)) n0 L0) (fc : FuncId) (caps : List AV) (hcaps : AV.unders n0 caps) (p : Vers → Prop) [DecidablePred p] (l : List (Vers)) (hl : l.length < 4611686018427387904) (hcal : callable Tryz.prog fc = true)
  (hf : ∀ x ∈ l, ∀ H, HT (ofL L0) n0 H → ACall Tryz.prog fc (eVersion x :: caps) H (.ret (.lit (.bool (decide (p x))))) H) (H : List Blk) (hH : HT (ofL L0) n0 H) : ACall Tryz.prog 150 [eVersions l, clo fc caps] H (.ret (.lit (.bool (decide (∃ x ∈ l, p x))))) H := by
 refine fn_at (m := false) (fn := Tryz.f150) (c := (Tryz.f150.body).getD .skip) mixed (by kernel_rfl) (by kernel_rfl) (of_decide_eq_true (by kernel_rfl)) rfl ?_ H hH
 refine CallG.at _ (c_indexV hn hL0 fc caps hcaps p l hl hcal hf) ?_
 refine If.mk (fun h1 => ?_) (fun h1 => ?_)
 ·refine ⟨.inl rfl, hn, FinF.bool rfl rfl ⟨fun _ => rfl, fun _ => idx_nonneg.1 h1⟩⟩
 ·refine ⟨.inl rfl, hn, FinF.bool rfl rfl ⟨fun x => absurd (idx_nonneg.2 x) h1, fun x => by cases x⟩⟩
set_option maxRecDepth 100000 in
theorem c_indexS {L0 : List (Nat × Blk)} {n0 : Nat} (hn : n0 ≤ noLo) (hL0 : Blks (get (ofL L0)) n0 L0) (fc : FuncId) (caps : List AV) (hcaps : AV.unders n0 caps) (p : List Move → Prop) [DecidablePred p] (l : List (List Move)) (hl : l.length < 4611686018427387904) (hcal : callable Tryz.prog fc = true)
  (hf : ∀ x ∈ l, ∀ H, HT (ofL L0) n0 H → ACall Tryz.prog fc (eState x :: caps) H (.ret (.lit (.bool (decide (p x))))) H) (H : List Blk) (hH : HT (ofL L0) n0 H) : ACall Tryz.prog 207 [eStates l, clo fc caps] H (.ret (n' (idxOf p l))) H := by
 refine fn_at (m := false) (fn := Tryz.f207) (c := (Tryz.f207.body).getD .skip) mixed (by kernel_rfl) (by kernel_rfl) (of_decide_eq_true (by kernel_rfl)) rfl ?_ H hH
 refine loop_up mixed (m := false) (fun r => [(0, eStates l), (1, clo fc caps), (7, n' l.length), (8, n' r)]) (fun _ => L0) (fun r => ∀ x ∈ l.take r, ¬ p x) l.length noLo (leb rfl) (fun _ h => by simp at h) ?_ ?_ ?_
 ·exact ⟨⟨_, rfl, Weak.refl _ _, under_states _ _⟩, ⟨_, rfl, Weak.refl _ _, ⟨trivial, by rw [AV.unders_mem] at hcaps ⊢; exact fun a ha => AV.under_mono hn a (hcaps a ha)⟩⟩, wp rfl trivial, wp rfl trivial, trivial⟩
 ·exact hL0.mono hn
 ·intro r hr hI
  refine If.mk (fun h1 => ?_) (fun h1 => ?_)
  ·refine ifY ?_
   refine Ex.mk _ (ix_states (r := r) rfl (by omega)) ?_
   refine Ex.mk _ rfl ?_
   have hr' : r < l.length := by omega
   refine bif_mk hcal ?_
   refine CallG.atB (p := p l[r]) (hf _ (List.getElem_mem hr')) (fun h => ?_) (fun h => ?_)
   ·refine ifY ?_
    refine ⟨leb rfl, .inl rfl, hn, FinF.mk _ rfl rfl ?_⟩
    show n' (r : Nat) = _
    rw [idx_hit hr' hI h]
   ·refine ifN ?_
    refine Side.mk (fits64 (by omega)) ?_
    refine ⟨leb rfl, rfl, hr', all_snoc (p := fun x => ¬ p x) hr' hI h, ⟨⟨_, rfl, Weak.refl _ _, under_states _ _⟩, ⟨_, rfl, Weak.refl _ _, ⟨trivial, hcaps⟩⟩, wp rfl trivial, wp rfl trivial, trivial⟩, hL0, ?_⟩
    rw [show n0 - noLo = 0 by omega]
    exact trivial
  ·refine ifN ?_
   refine ⟨leb rfl, .inl rfl, hn, FinF.mk _ rfl rfl ?_⟩
   show n' (-1) = _
   rw [idx_miss (all_end (p := fun x => ¬ p x) (by omega) hI)]
set_option maxRecDepth 100000 in
theorem c_containsS {L0 : List (Nat × Blk)} {n0 : Nat} (hn : n0 ≤ noLo) (hL0 : Blks (get (ofL L0)) n0 L0) (fc : FuncId) (caps : List AV) (hcaps : AV.unders n0 caps) (p : List Move → Prop) [DecidablePred p] (l : List (List Move)) (hl : l.length < 4611686018427387904) (hcal : callable Tryz.prog fc = true)
  (hf : ∀ x ∈ l, ∀ H, HT (ofL L0) n0 H → ACall Tryz.prog fc (eState x :: caps) H (.ret (.lit (.bool (decide (p x))))) H) (H : List Blk) (hH : HT (ofL L0) n0 H) : ACall Tryz.prog 192 [eStates l, clo fc caps] H (.ret (.lit (.bool (decide (∃ x ∈ l, p x))))) H := by
 refine fn_at (m := false) (fn := Tryz.f192) (c := (Tryz.f192.body).getD .skip) mixed (by kernel_rfl) (by kernel_rfl) (of_decide_eq_true (by kernel_rfl)) rfl ?_ H hH
 refine CallG.at _ (c_indexS hn hL0 fc caps hcaps p l hl hcal hf) ?_
 refine If.mk (fun h1 => ?_) (fun h1 => ?_)
 ·refine ⟨.inl rfl, hn, FinF.bool rfl rfl ⟨fun _ => rfl, fun _ => idx_nonneg.1 h1⟩⟩
 ·refine ⟨.inl rfl, hn, FinF.bool rfl rfl ⟨fun x => absurd (idx_nonneg.2 x) h1, fun x => by cases x⟩⟩
set_option maxRecDepth 100000 in
theorem c_indexM {L0 : List (Nat × Blk)} {n0 : Nat} (hn : n0 ≤ noLo) (hL0 : Blks (get (ofL L0)) n0 L0) (fc : FuncId) (caps : List AV) (hcaps : AV.unders n0 caps) (p : Move → Prop) [DecidablePred p] (l : List (Move)) (hl : l.length < 4611686018427387904) (hcal : callable Tryz.prog fc = true)
  (hf : ∀ x ∈ l, ∀ H, HT (ofL L0) n0 H → ACall Tryz.prog fc (eMoveA x :: caps) H (.ret (.lit (.bool (decide (p x))))) H) (H : List Blk) (hH : HT (ofL L0) n0 H) : ACall Tryz.prog 208 [eState l, clo fc caps] H (.ret (n' (idxOf p l))) H := by
 refine fn_at (m := false) (fn := Tryz.f208) (c := (Tryz.f208.body).getD .skip) mixed (by kernel_rfl) (by kernel_rfl) (of_decide_eq_true (by kernel_rfl)) rfl ?_ H hH
 refine loop_up mixed (m := false) (fun r => [(0, eState l), (1, clo fc caps), (7, n' l.length), (8, n' r)]) (fun _ => L0) (fun r => ∀ x ∈ l.take r, ¬ p x) l.length noLo (leb rfl) (fun _ h => by simp at h) ?_ ?_ ?_
 ·exact ⟨⟨_, rfl, Weak.refl _ _, under_state _ _⟩, ⟨_, rfl, Weak.refl _ _, ⟨trivial, by rw [AV.unders_mem] at hcaps ⊢; exact fun a ha => AV.under_mono hn a (hcaps a ha)⟩⟩, wp rfl trivial, wp rfl trivial, trivial⟩
 ·exact hL0.mono hn
 ·intro r hr hI
  refine If.mk (fun h1 => ?_) (fun h1 => ?_)
  ·refine ifY ?_
   refine Ex.mk _ (ix_moves (r := r) rfl (by omega)) ?_
   refine Ex.mk _ rfl ?_
   have hr' : r < l.length := by omega
   refine bif_mk hcal ?_
   refine CallG.atB (p := p l[r]) (hf _ (List.getElem_mem hr')) (fun h => ?_) (fun h => ?_)
   ·refine ifY ?_
    refine ⟨leb rfl, .inl rfl, hn, FinF.mk _ rfl rfl ?_⟩
    show n' (r : Nat) = _
    rw [idx_hit hr' hI h]
   ·refine ifN ?_
    refine Side.mk (fits64 (by omega)) ?_
    refine ⟨leb rfl, rfl, hr', all_snoc (p := fun x => ¬ p x) hr' hI h, ⟨⟨_, rfl, Weak.refl _ _, under_state _ _⟩, ⟨_, rfl, Weak.refl _ _, ⟨trivial, hcaps⟩⟩, wp rfl trivial, wp rfl trivial, trivial⟩, hL0, ?_⟩
    rw [show n0 - noLo = 0 by omega]
    exact trivial
  ·refine ifN ?_
   refine ⟨leb rfl, .inl rfl, hn, FinF.mk _ rfl rfl ?_⟩
   show n' (-1) = _
   rw [idx_miss (all_end (p := fun x => ¬ p x) (by omega) hI)]
set_option maxRecDepth 100000 in
theorem c_containsM {L0 : List (Nat × Blk)} {n0 : Nat} (hn : n0 ≤ noLo) (hL0 : Blks (get (ofL L0)) n0 L0) (fc : FuncId) (caps : List AV) (hcaps : AV.unders n0 caps) (p : Move → Prop) [DecidablePred p] (l : List (Move)) (hl : l.length < 4611686018427387904) (hcal : callable Tryz.prog fc = true)
  (hf : ∀ x ∈ l, ∀ H, HT (ofL L0) n0 H → ACall Tryz.prog fc (eMoveA x :: caps) H (.ret (.lit (.bool (decide (p x))))) H) (H : List Blk) (hH : HT (ofL L0) n0 H) : ACall Tryz.prog 194 [eState l, clo fc caps] H (.ret (.lit (.bool (decide (∃ x ∈ l, p x))))) H := by
 refine fn_at (m := false) (fn := Tryz.f194) (c := (Tryz.f194.body).getD .skip) mixed (by kernel_rfl) (by kernel_rfl) (of_decide_eq_true (by kernel_rfl)) rfl ?_ H hH
 refine CallG.at _ (c_indexM hn hL0 fc caps hcaps p l hl hcal hf) ?_
 refine If.mk (fun h1 => ?_) (fun h1 => ?_)
 ·refine ⟨.inl rfl, hn, FinF.bool rfl rfl ⟨fun _ => rfl, fun _ => idx_nonneg.1 h1⟩⟩
 ·refine ⟨.inl rfl, hn, FinF.bool rfl rfl ⟨fun x => absurd (idx_nonneg.2 x) h1, fun x => by cases x⟩⟩
end Go.Vm

namespace Go.Vm
open Go.Proofs
def vBox (v : Vers) : Blk := .box [eStates v] 32
theorem vBox_under (n : Nat) (v : Vers) : (vBox v).under n := under_eVersion n v
set_option maxRecDepth 100000 in
theorem c_right68 {b : Book} (hb : BFit b) (v : Vers) (hl : v.length < 4611686018427387904) (hl2 : ∀ s ∈ v, s.length < 4611686018427387904) (H : List Blk) : ACall Tryz.prog 68 [eBook b, eVersion v] H (.ret (.lit (.bool (decide (VOk b v))))) H := by
 refine fn_rule (m := false) (fn := Tryz.f68) (c := (Tryz.f68.body).getD .skip) mixed (by kernel_rfl) (by kernel_rfl) (of_decide_eq_true (by kernel_rfl)) ?_ ?_ ?_ H
 ·exact ⟨under_eBook 0 _, under_eVersion 0 _, trivial⟩
 ·trivial
 ·refine LoopG.at (n0 := 2) rfl (loop_up mixed (m := false) (fun r => [(2, .ptr 0 0), (3, .ptr 1 0), (5, n' r)]) (fun _ => [(0, bBox b), (1, vBox v)]) (fun r => ∀ x ∈ v.take r, StOk b v x) v.length 0 (Nat.zero_le _) (fun _ h => by simp at h) ?_ ?_ ?_)
  ·exact ⟨wp rfl (ltb rfl), wp rfl (ltb rfl), wp rfl trivial, trivial⟩
  ·exact ⟨bk rfl rfl, bk rfl rfl, trivial⟩
  ·intro r hr hI
   refine If.mk (fun h1 => ?_) (fun h1 => ?_)
   ·refine ifY ?_
    have hr' : r < v.length := by omega
    refine Ex.mk _ (ix_states (r := r) rfl (by omega)) ?_
    refine Ex.mk _ rfl ?_
    have hs := hl2 _ (List.getElem_mem hr')
    refine If.mk (fun h2 => ?_) (fun h2 => ?_)
    ·refine ifN ?_
     refine LoopG.at (n0 := 11) rfl (loop_up mixed (m := false) (fun q => [(2, .ptr 0 0), (3, .ptr 1 0), (5, n' r), (6, n' q)]) (fun _ => [(0, bBox b), (1, vBox v)]) (fun q => ∀ m ∈ v[r].take q, inI m.1 0 (v.length - 1) ∧ inI m.2 0 (b.tunes - 1)) v[r].length 11 (leb rfl) (fun _ h => by simp at h) ?_ ?_ ?_)
     ·exact ⟨wp rfl (ltb rfl), wp rfl (ltb rfl), wp rfl trivial, wp rfl trivial, trivial⟩
     ·exact ⟨bk rfl rfl, bk rfl rfl, trivial⟩
     ·intro q hq hJ
      refine Ex.mk _ (ix_states (r := r) rfl (by omega)) ?_
      refine Ex.mk _ rfl ?_
      refine If.mk (fun h3 => ?_) (fun h3 => ?_)
      ·refine ifY ?_
       refine Ex.mk _ (ix_states (r := r) rfl (by omega)) ?_
       refine Ex.mk _ rfl ?_
       refine Ex.mk _ (ix_moves (r := q) rfl (by omega)) ?_
       refine Ex.mk _ rfl ?_
       refine Side.mk (fits64 (by omega)) ?_
       refine CallG.bool (c_rin _ _ _) (fun h => ?_) (fun h => ?_)
       ·refine CallG.bool (c_tune hb _) (fun h4 => ?_) (fun h4 => ?_)
        ·refine ifN ?_
         refine Side.mk (fits64 (by omega)) ?_
         exact ⟨leb rfl, rfl, by omega, all_snoc (by omega) hJ ⟨h, h4⟩, ⟨wp rfl (ltb rfl), wp rfl (ltb rfl), wp rfl trivial, wp rfl trivial, trivial⟩, ⟨bk rfl rfl, bk rfl rfl, trivial⟩, trivial⟩
        ·refine ifY ?_
         exact ⟨leb rfl, Nat.zero_le _, .inl rfl, FinG.no rfl rfl (fun x => h4 ((x.1 _ (List.getElem_mem hr')).2 _ (List.getElem_mem _)).2)⟩
       ·refine ifY ?_
        exact ⟨leb rfl, Nat.zero_le _, .inl rfl, FinG.no rfl rfl (fun x => h ((x.1 _ (List.getElem_mem hr')).2 _ (List.getElem_mem _)).1)⟩
      ·refine ifN ?_
       refine ⟨leb rfl, ?_⟩
       refine Side.mk (fits64 (by omega)) ?_
       exact ⟨Nat.zero_le _, rfl, by omega, all_snoc (by omega) hI ⟨h2, all_end (by omega) hJ⟩, ⟨wp rfl (ltb rfl), wp rfl (ltb rfl), wp rfl trivial, trivial⟩, ⟨bk rfl rfl, bk rfl rfl, trivial⟩, trivial⟩
    ·refine ifY ?_
     exact ⟨Nat.zero_le _, .inl rfl, FinG.no rfl rfl (fun x => h2 (x.1 _ (List.getElem_mem hr')).1)⟩
   ·refine ifN ?_
    refine ⟨Nat.zero_le _, ?_⟩
    refine CallG.pure _ (c_rin _ _ _) ?_
    refine ⟨.inl rfl, FinG.bool rfl rfl ?_⟩
    rw [decide_eq_true_iff]
    exact ⟨fun x => x.2, fun x => ⟨all_end (by omega) hI, x⟩⟩
end Go.Vm

namespace Go.Vm
open Go.Proofs
def BLen (b : Book) : Prop := b.vs.length < 4611686018427387904 ∧ ∀ v ∈ b.vs, v.length < 4611686018427387904 ∧ ∀ s ∈ v, s.length < 4611686018427387904
set_option maxRecDepth 100000 in
theorem c_book {b : Book} (hb : BLen b) (H : List Blk) : ACall Tryz.prog 39 [eBook b] H (.ret (.lit (.bool (decide (BOk b))))) H := by
 refine fn_rule (m := false) (fn := Tryz.f39) (c := (Tryz.f39.body).getD .skip) mixed (by kernel_rfl) (by kernel_rfl) (of_decide_eq_true (by kernel_rfl)) ?_ ?_ ?_ H
 ·exact ⟨under_eBook 0 _, trivial⟩
 ·trivial
 ·refine CallG.bool (c_rin _ _ _) (fun h => ?_) (fun h => ?_)
  ·refine CallG.bool (c_rin _ _ _) (fun h2 => ?_) (fun h2 => ?_)
   ·refine CallG.bool (c_rin _ _ _) (fun h3 => ?_) (fun h3 => ?_)
    ·refine ifN ?_
     have hf : BFit b := by
      unfold inI at h h2 h3
      unfold BFit
      omega
     refine LoopG.at (n0 := 1) rfl (loop_up mixed (m := false) (fun r => [(1, .ptr 0 0), (3, n' r)]) (fun _ => [(0, bBox b)]) (fun r => ∀ x ∈ b.vs.take r, VOk b x) b.vs.length 0 (Nat.zero_le _) (fun _ h => by simp at h) ?_ ?_ ?_)
     ·exact ⟨wp rfl (ltb rfl), wp rfl trivial, trivial⟩
     ·exact ⟨bk rfl rfl, trivial⟩
     ·intro r hr hI
      refine If.mk (fun h1 => ?_) (fun h1 => ?_)
      ·refine ifY ?_
       have hr' : r < b.vs.length := by omega
       have hx := hb.2 _ (List.getElem_mem hr')
       have hlen := hb.1
       refine Ex.mk _ (ix_versions (r := r) rfl (by omega)) ?_
       refine Ex.mk _ rfl ?_
       refine CallG.bool (c_right68 hf _ hx.1 hx.2) (fun h4 => ?_) (fun h4 => ?_)
       ·refine ifN ?_
        refine Side.mk (fits64 (by omega)) ?_
        exact ⟨Nat.zero_le _, rfl, by omega, all_snoc (by omega) hI h4, ⟨wp rfl (ltb rfl), wp rfl trivial, trivial⟩, ⟨bk rfl rfl, trivial⟩, trivial⟩
       ·refine ifY ?_
        exact ⟨Nat.zero_le _, .inl rfl, FinG.no rfl rfl (fun x => h4 (x.2 _ (List.getElem_mem hr')))⟩
      ·refine ifN ?_
       exact ⟨Nat.zero_le _, .inl rfl, FinG.yes rfl rfl (⟨⟨h, h2, h3⟩, all_end (by omega) hI⟩)⟩
    ·refine ifY ?_
     exact ⟨.inl rfl, FinG.no rfl rfl (fun x => h3 x.1.2.2)⟩
   ·refine ifY ?_
    exact ⟨.inl rfl, FinG.no rfl rfl (fun x => h2 x.1.2.1)⟩
  ·refine ifY ?_
   exact ⟨.inl rfl, FinG.no rfl rfl (fun x => h x.1.1)⟩
def ShortV (v : Vers) : Prop := (∀ s ∈ v, (s.length : Int) ≤ 6) ∧ (v.length : Int) ≤ 6
def Short (b : Book) : Prop := (∀ v ∈ b.vs, ShortV v) ∧ (b.vs.length : Int) ≤ 6
instance (v : Vers) : Decidable (ShortV v) := by unfold ShortV; infer_instance
instance (b : Book) : Decidable (Short b) := by unfold Short; infer_instance
theorem Short.len {b : Book} (h : Short b) : BLen b := by
 obtain ⟨h1, h2⟩ := h
 refine ⟨by omega, fun v hv => ?_⟩
 obtain ⟨h3, h4⟩ := h1 v hv
 exact ⟨by omega, fun s hs => by have := h3 s hs; omega⟩
set_option maxRecDepth 100000 in
theorem c_short (b : Book) (H : List Blk) : ACall Tryz.prog 35 [eBook b] H (.ret (.lit (.bool (decide (Short b))))) H := by
 refine fn_rule (m := false) (fn := Tryz.f35) (c := (Tryz.f35.body).getD .skip) mixed (by kernel_rfl) (by kernel_rfl) (of_decide_eq_true (by kernel_rfl)) ?_ ?_ ?_ H
 ·exact ⟨under_eBook 0 _, trivial⟩
 ·trivial
 ·refine LoopG.at (n0 := 1) rfl (loop_up mixed (m := false) (fun r => [(1, .ptr 0 0), (3, n' r)]) (fun _ => [(0, bBox b)]) (fun r => ∀ x ∈ b.vs.take r, ShortV x) 6 0 (Nat.zero_le _) (fun _ h => by simp at h) ?_ ?_ ?_)
  ·exact ⟨wp rfl (ltb rfl), wp rfl trivial, trivial⟩
  ·exact ⟨bk rfl rfl, trivial⟩
  ·intro r hr hI
   have fin : ∀ {x : Prop} (a : (b.vs.length : Int) ≤ 6) (c : b.vs.length ≤ r), Short b := fun a c => ⟨all_end c hI, a⟩
   refine If.mk (fun h1 => ?_) (fun h1 => ?_)
   ·refine If.mk (fun h2 => ?_) (fun h2 => ?_)
    ·refine ifY ?_
     have hr' : r < b.vs.length := by omega
     refine Ex.mk _ (ix_versions (r := r) rfl (by omega)) ?_
     refine Ex.mk _ rfl ?_
     refine LoopG.at (n0 := 2) rfl (loop_up mixed (m := false) (fun q => [(1, .ptr 0 0), (3, n' r), (4, .ptr 1 0), (5, n' q)]) (fun _ => [(0, bBox b), (1, vBox b.vs[r])]) (fun q => ∀ s ∈ b.vs[r].take q, (s.length : Int) ≤ 6) 6 1 (leb rfl) (fun _ h => by simp at h) ?_ ?_ ?_)
     ·exact ⟨wp rfl (ltb rfl), wp rfl trivial, wp rfl (ltb rfl), wp rfl trivial, trivial⟩
     ·exact ⟨bk rfl rfl, bk rfl rfl, trivial⟩
     ·intro q hq hJ
      refine If.mk (fun h3 => ?_) (fun h3 => ?_)
      ·refine If.mk (fun h4 => ?_) (fun h4 => ?_)
       ·refine ifY ?_
        have hq' : q < b.vs[r].length := by omega
        refine Ex.mk _ (ix_states (r := q) rfl (by omega)) ?_
        refine Ex.mk _ rfl ?_
        refine If.mk (fun h5 => ?_) (fun h5 => ?_)
        ·refine ifY ?_
         exact ⟨leb rfl, Nat.zero_le _, .inl rfl, FinG.no rfl rfl (fun x => by have := (x.1 _ (List.getElem_mem hr')).1 _ (List.getElem_mem hq'); omega)⟩
        ·refine ifN ?_
         refine Side.mk (fits64 (by omega)) ?_
         exact ⟨leb rfl, rfl, by omega, all_snoc (p := fun s : List Move => (s.length : Int) ≤ 6) (by omega) hJ (by omega), ⟨wp rfl (ltb rfl), wp rfl trivial, wp rfl (ltb rfl), wp rfl trivial, trivial⟩, ⟨bk rfl rfl, bk rfl rfl, trivial⟩, trivial⟩
       ·refine ifN ?_
        refine ⟨leb rfl, ?_⟩
        refine If.mk (fun h5 => ?_) (fun h5 => ?_)
        ·refine ifY ?_
         exact ⟨leb rfl, .inl rfl, FinG.no rfl rfl (fun x => by have := (x.1 _ (List.getElem_mem hr')).2; omega)⟩
        ·refine ifN ?_
         refine Side.mk (fits64 (by omega)) ?_
         exact ⟨leb rfl, rfl, by omega, all_snoc (by omega) hI ⟨all_end (by omega) hJ, by omega⟩, ⟨wp rfl (ltb rfl), wp rfl trivial, trivial⟩, ⟨bk rfl rfl, trivial⟩, trivial⟩
      ·refine ifN ?_
       refine ⟨leb rfl, ?_⟩
       refine If.mk (fun h5 => ?_) (fun h5 => ?_)
       ·refine ifY ?_
        exact ⟨leb rfl, .inl rfl, FinG.no rfl rfl (fun x => by have := (x.1 _ (List.getElem_mem hr')).2; omega)⟩
       ·refine ifN ?_
        refine Side.mk (fits64 (by omega)) ?_
        exact ⟨leb rfl, rfl, by omega, all_snoc (by omega) hI ⟨all_end (by omega) hJ, by omega⟩, ⟨wp rfl (ltb rfl), wp rfl trivial, trivial⟩, ⟨bk rfl rfl, trivial⟩, trivial⟩
    ·refine ifN ?_
     refine ⟨Nat.zero_le _, ?_⟩
     refine If.mk (fun h3 => ?_) (fun h3 => ?_)
     ·exact ⟨.inl rfl, FinG.yes rfl rfl (⟨all_end (by omega) hI, h3⟩)⟩
     ·exact ⟨.inl rfl, FinG.no rfl rfl (fun x => h3 x.2)⟩
   ·refine ifN ?_
    refine ⟨Nat.zero_le _, ?_⟩
    refine If.mk (fun h3 => ?_) (fun h3 => ?_)
    ·exact ⟨.inl rfl, FinG.yes rfl rfl (⟨all_end (by omega) hI, h3⟩)⟩
    ·exact ⟨.inl rfl, FinG.no rfl rfl (fun x => h3 x.2)⟩
def Slim (e : Evening) : Prop := (e.1.length : Int) ≤ 10 ∧ (e.2.length : Int) ≤ 10
def Brief (l : List Evening) : Prop := (∀ e ∈ l, Slim e) ∧ (l.length : Int) ≤ 6
instance (e : Evening) : Decidable (Slim e) := by unfold Slim; infer_instance
instance (l : List Evening) : Decidable (Brief l) := by unfold Brief; infer_instance
def Right (b : Book) (l : List Evening) : Prop := ((Short b ∧ Brief l) ∧ BOk b) ∧ EvsOk b l
instance (b : Book) (l : List Evening) : Decidable (Right b l) := by unfold Right; infer_instance
end Go.Vm

namespace Go.Vm
open Go.Proofs
theorem c_in (a b c : Int) (H : List Blk) : ACall Tryz.prog 149 [n' a, n' b, n' c] H (.ret (.lit (.bool (decide (b ≤ a ∧ a ≤ c))))) H := by
 refine fn_rule (m := false) (fn := Tryz.f149) (c := (Tryz.f149.body).getD .skip) mixed (by kernel_rfl) (by kernel_rfl) (of_decide_eq_true (by kernel_rfl)) ?_ ?_ ?_ H
 ·simp [n', AV.unders, AV.under]
 ·simp [AV.under]
 ·refine If.mk (fun h => ?_) (fun h => ?_)
  ·refine If.mk (fun h2 => ?_) (fun h2 => ?_)
   ·refine ⟨.inl rfl, FinG.mk _ rfl rfl ?_⟩
    rw [decide_eq_true (And.intro h h2)]; rfl
   ·refine ⟨.inl rfl, FinG.mk _ rfl rfl ?_⟩
    rw [decide_eq_false (fun e => h2 e.2)]; rfl
  ·refine ⟨.inl rfl, FinG.mk _ rfl rfl ?_⟩
   rw [decide_eq_false (fun e => h e.1)]; rfl
end Go.Vm

namespace Go.Vm
open Go.Proofs
theorem HT.one (B : Blk) : HT (ofL [(0, B)]) 1 [B] := ⟨rfl, fun id B' h => by
 have := get_ofL h
 simp at this
 obtain ⟨rfl, rfl⟩ := this
 rfl⟩
theorem HT.two (B B' : Blk) : HT (ofL [(0, B), (1, B')]) 2 [B, B'] := ⟨rfl, fun id X h => by
 have := get_ofL h
 simp at this
 rcases this with ⟨rfl, rfl⟩ | ⟨rfl, rfl⟩ <;> rfl⟩
def bvL (b : Book) (v : Vers) : List (Nat × Blk) := [(0, bBox b), (1, vBox v)]
theorem bvL_ok (b : Book) (v : Vers) {n0 : Nat} (h : 2 ≤ n0) : Blks (get (ofL (bvL b v))) n0 (bvL b v) := ⟨⟨rfl, (show 0 < n0 by omega)⟩, ⟨rfl, (show 1 < n0 by omega)⟩, trivial⟩
def bL (b : Book) : List (Nat × Blk) := [(0, bBox b)]
theorem bL_ok (b : Book) {n0 : Nat} (h : 1 ≤ n0) : Blks (get (ofL (bL b))) n0 (bL b) := ⟨⟨rfl, (show 0 < n0 by omega)⟩, trivial⟩
def MvOk (b : Book) (v : Vers) (m : Move) : Prop := inI m.1 0 (v.length - 1) ∧ inI m.2 0 (b.tunes - 1)
instance (b : Book) (v : Vers) (m : Move) : Decidable (MvOk b v m) := by unfold MvOk; infer_instance
set_option maxRecDepth 100000 in
theorem c_195 {b : Book} {v : Vers} (hb : BFit b) (hv : v.length < 4611686018427387904) (m : Move) (H2 : List Blk) : ACall Tryz.prog 195 [eMoveA m, .ptr 1 0, .ptr 0 0] ([bBox b, vBox v] ++ H2) (.ret (.lit (.bool (decide (¬ MvOk b v m))))) ([bBox b, vBox v] ++ H2) := by
 obtain ⟨hb1, hb2, hb3, hb4, hb5⟩ := hb
 refine fn_pre (m := false) (fn := Tryz.f195) (c := (Tryz.f195.body).getD .skip) mixed (by kernel_rfl) (by kernel_rfl) (of_decide_eq_true (by kernel_rfl)) (HT.two _ _) ?_ ?_ rfl ?_ H2
 ·exact ⟨⟨trivial, trivial, trivial⟩, ltb rfl, ltb rfl, trivial⟩
 ·intro B hB
  simp at hB
  rcases hB with rfl | rfl
  ·exact bBox_under _ _
  ·exact vBox_under _ _
 ·refine Side.mk (fits64 (by omega)) ?_
  refine CallG.bool (c_in _ _ _) (fun h => ?_) (fun h => ?_)
  ·refine Side.mk (fits64 (by omega)) ?_
   refine CallG.bool (c_in _ _ _) (fun h2 => ?_) (fun h2 => ?_)
   ·exact ⟨.inl rfl, leb rfl, FinF.bool rfl rfl ⟨fun x => absurd ⟨h, h2⟩ x, fun x => by cases x⟩⟩
   ·exact ⟨.inl rfl, leb rfl, FinF.bool rfl rfl ⟨fun _ => rfl, fun _ x => h2 x.2⟩⟩
  ·exact ⟨.inl rfl, leb rfl, FinF.bool rfl rfl ⟨fun _ => rfl, fun _ x => h x.1⟩⟩
theorem not_ex {α : Type} {l : List α} {p : α → Prop} [DecidablePred p] : (¬ ∃ x ∈ l, ¬ p x) ↔ ∀ x ∈ l, p x :=
 ⟨fun h x hx => Decidable.byContradiction fun hn => h ⟨x, hx, hn⟩, fun h ⟨x, hx, hn⟩ => hn (h x hx)⟩
set_option maxRecDepth 100000 in
theorem c_193 {b : Book} {v : Vers} (hb : BFit b) (hv : v.length < 4611686018427387904) {n0 : Nat} (hn : n0 ≤ noLo) (hn2 : 2 ≤ n0) (s : List Move) (hs : s.length < 4611686018427387904) (H : List Blk) (hH : HT (ofL (bvL b v)) n0 H) :
  ACall Tryz.prog 193 [eState s, .ptr 0 0, .ptr 1 0] H (.ret (.lit (.bool (decide (¬ StOk b v s))))) H := by
 refine fn_at (m := false) (fn := Tryz.f193) (c := (Tryz.f193.body).getD .skip) mixed (by kernel_rfl) (by kernel_rfl) (of_decide_eq_true (by kernel_rfl)) rfl ?_ H hH
 refine If.mk (fun h1 => ?_) (fun h1 => ?_)
 ·refine CallG.atB (p := ∃ m ∈ s, ¬ MvOk b v m) (c_containsM hn (bvL_ok b v hn2) 195 [.ptr 1 0, .ptr 0 0] ⟨(show 1 < n0 by omega), (show 0 < n0 by omega), trivial⟩ (fun m => ¬ MvOk b v m) s hs rfl (fun m _ H hH => ?_)) (fun h => ?_) (fun h => ?_)
  ·obtain ⟨H2, rfl⟩ := hH.first2 rfl rfl
   exact c_195 hb hv m H2
  ·refine ⟨.inl rfl, hn, FinF.bool rfl rfl ⟨fun _ => rfl, fun _ x => ?_⟩⟩
   obtain ⟨m, hm, hx⟩ := h
   exact hx (x.2 m hm)
  ·refine ⟨.inl rfl, hn, FinF.bool rfl rfl ⟨fun x => absurd ⟨h1, fun m hm => ?_⟩ x, fun x => by cases x⟩⟩
   exact not_ex.1 h m hm
 ·exact ⟨.inl rfl, hn, FinF.bool rfl rfl ⟨fun _ => rfl, fun _ x => h1 x.1⟩⟩
set_option maxRecDepth 100000 in
theorem c_isVersion {b : Book} (hb : BFit b) (v : Vers) (hv : v.length < 4611686018427387904) (hv2 : ∀ s ∈ v, s.length < 4611686018427387904) (H : List Blk) : ACall Tryz.prog 152 [eBook b, eVersion v] H (.ret (.lit (.bool (decide (VOk b v))))) H := by
 refine fn_rule (m := false) (fn := Tryz.f152) (c := (Tryz.f152.body).getD .skip) mixed (by kernel_rfl) (by kernel_rfl) (of_decide_eq_true (by kernel_rfl)) ?_ ?_ ?_ H
 ·exact ⟨under_eBook 0 _, under_eVersion 0 _, trivial⟩
 ·trivial
 ·refine CallG.bool (c_in _ _ _) (fun h => ?_) (fun h => ?_)
  ·refine CallG.atB (p := ∃ s ∈ v, ¬ StOk b v s) (fun H hH => c_containsS (n0 := 2) (leb rfl) (bvL_ok b v (leb rfl)) 193 [.ptr 0 0, .ptr 1 0] ⟨ltb rfl, ltb rfl, trivial⟩ (fun s => ¬ StOk b v s) v hv rfl (fun s hs H hH => c_193 hb hv (leb rfl) (leb rfl) s (hv2 s hs) H hH) H (hH.sub ⟨bk rfl rfl, bk rfl rfl, trivial⟩)) (fun h2 => ?_) (fun h2 => ?_)
   ·exact ⟨.inl rfl, FinG.no rfl rfl (fun x => by obtain ⟨s, hs, hx⟩ := h2; exact hx (x.1 s hs))⟩
   ·exact ⟨.inl rfl, FinG.yes rfl rfl (⟨not_ex.1 h2, h⟩)⟩
  ·exact ⟨.inl rfl, FinG.no rfl rfl (fun x => h x.2)⟩
set_option maxRecDepth 100000 in
theorem c_151 {b : Book} (hb : BFit b) (v : Vers) (hv : v.length < 4611686018427387904) (hv2 : ∀ s ∈ v, s.length < 4611686018427387904) (H2 : List Blk) : ACall Tryz.prog 151 [eVersion v, .ptr 0 0] ([bBox b] ++ H2) (.ret (.lit (.bool (decide (¬ VOk b v))))) ([bBox b] ++ H2) := by
 refine fn_pre (m := false) (fn := Tryz.f151) (c := (Tryz.f151.body).getD .skip) mixed (by kernel_rfl) (by kernel_rfl) (of_decide_eq_true (by kernel_rfl)) (HT.one _) ?_ ?_ rfl ?_ H2
 ·exact ⟨under_eVersion _ _, ltb rfl, trivial⟩
 ·intro B hB
  simp at hB
  subst hB
  exact bBox_under _ _
 ·refine CallG.bool (c_isVersion hb v hv hv2) (fun h => ?_) (fun h => ?_)
  ·exact ⟨.inl rfl, leb rfl, FinF.bool rfl rfl ⟨fun x => absurd h x, fun x => by cases x⟩⟩
  ·exact ⟨.inl rfl, leb rfl, FinF.bool rfl rfl ⟨fun _ => rfl, fun _ => h⟩⟩
set_option maxRecDepth 100000 in
theorem c_isBook {b : Book} (hl : BLen b) (H : List Blk) : ACall Tryz.prog 93 [eBook b] H (.ret (.lit (.bool (decide (BOk b))))) H := by
 refine fn_rule (m := false) (fn := Tryz.f93) (c := (Tryz.f93.body).getD .skip) mixed (by kernel_rfl) (by kernel_rfl) (of_decide_eq_true (by kernel_rfl)) ?_ ?_ ?_ H
 ·exact ⟨under_eBook 0 _, trivial⟩
 ·trivial
 ·refine CallG.bool (c_in _ _ _) (fun h => ?_) (fun h => ?_)
  ·refine CallG.bool (c_in _ _ _) (fun h2 => ?_) (fun h2 => ?_)
   ·refine CallG.bool (c_in _ _ _) (fun h3 => ?_) (fun h3 => ?_)
    ·have hf : BFit b := by
      have := hl.1
      unfold BFit
      omega
     refine CallG.atB (p := ∃ v ∈ b.vs, ¬ VOk b v) (fun H hH => c_containsV (n0 := 1) (leb rfl) (bL_ok b (leb rfl)) 151 [.ptr 0 0] ⟨ltb rfl, trivial⟩ (fun v => ¬ VOk b v) b.vs hl.1 rfl (fun v hv H hH => ?_) H (hH.sub ⟨bk rfl rfl, trivial⟩)) (fun h4 => ?_) (fun h4 => ?_)
     ·obtain ⟨H2, rfl⟩ := hH.first rfl
      exact c_151 hf v (hl.2 v hv).1 (hl.2 v hv).2 H2
     ·exact ⟨.inl rfl, FinG.no rfl rfl (fun x => by obtain ⟨s, hs, hx⟩ := h4; exact hx (x.2 s hs))⟩
     ·exact ⟨.inl rfl, FinG.yes rfl rfl (⟨⟨h, h2, h3⟩, not_ex.1 h4⟩)⟩
    ·exact ⟨.inl rfl, FinG.no rfl rfl (fun x => h3 x.1.2.2)⟩
   ·exact ⟨.inl rfl, FinG.no rfl rfl (fun x => h2 x.1.2.1)⟩
  ·exact ⟨.inl rfl, FinG.no rfl rfl (fun x => h x.1.1)⟩
end Go.Vm

namespace Go.Vm
open Go.Proofs
theorem jx_ints {l : List Int} {tl : Tail} {i : Int} {r : Nat} {x : Int} (hi : i = r) (h : l[r]? = some x) : indexOp Tryz.prog 25 (.sl l.length (l.map n') tl) (.lit (.int .i64 i)) = some (.eptr [n' x]) := by
 obtain ⟨h1, rfl⟩ := List.getElem?_eq_some_iff.1 h
 exact ix_ints hi h1
theorem jx_states {l : Vers} {tl : Tail} {i : Int} {r : Nat} {x : List Move} (hi : i = r) (h : l[r]? = some x) : indexOp Tryz.prog 30 (.sl l.length (l.map eState) tl) (.lit (.int .i64 i)) = some (.eptr [eState x]) := by
 obtain ⟨h1, rfl⟩ := List.getElem?_eq_some_iff.1 h
 exact ix_states hi h1
theorem jx_versions {l : List Vers} {tl : Tail} {i : Int} {r : Nat} {x : Vers} (hi : i = r) (h : l[r]? = some x) : indexOp Tryz.prog 22 (.sl l.length (l.map eStates) tl) (.lit (.int .i64 i)) = some (.eptr [eStates x]) := by
 obtain ⟨h1, rfl⟩ := List.getElem?_eq_some_iff.1 h
 exact ix_versions hi h1
theorem jx_moves {l : List Move} {tl : Tail} {i : Int} {r : Nat} {x : Move} (hi : i = r) (h : l[r]? = some x) : indexOp Tryz.prog 113 (.sl l.length (l.flatMap eMove) tl) (.lit (.int .i64 i)) = some (.eptr (eMove x)) := by
 obtain ⟨h1, rfl⟩ := List.getElem?_eq_some_iff.1 h
 exact ix_moves hi h1
theorem freezes_ints (g : Nat → Option Blk) (l : List Int) : AV.freezes g (l.map n') = l.map n' := freezes_map (fun _ => rfl) l
theorem app_int {g : Nat → Option Blk} {n len id gen : Nat} {cells : List AV} {a : Int} (h1 : cells.length = len) (h2 : len < 2097152) (hg : g id = some (.row gen)) :
  appT Tryz.prog false g n 25 25 (.sl len cells (.own id gen 1)) (.sl 1 [n' a] .full) = some (.sl (len + 1) (cells ++ [n' a]) (.own id (gen + 1) 1), .set id (.row (gen + 1))) :=
 appT_own (e := 3) (bytes := 8) (z := .int .i64 0) (by kernel_rfl) (by kernel_rfl) (by kernel_rfl) (by kernel_rfl) (by kernel_rfl) rfl (by omega) (by omega) (by omega) hg rfl
end Go.Vm
