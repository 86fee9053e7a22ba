/-
  Texts of the proof, part 20: the machine, contracts of functions, plain laws. (Own work.)
-/
import Derived.Test.YteefbiehcfmoeaaGreatDoorG14DalangNil
import Derived.Test.YteefbiehcfmoeaaGreatDoorG19DalangNil
import Derived.Test.YteefbiehcfmoeaaGreatDoorG15DalangNil
import Derived.Laws.RangeString
import Derived.Test.YteefbiehcfmoeaaGreatDoorG11DalangNil
import Derived.Test.YteefbiehcfmoeaaGreatDoorG13DalangNil

namespace Go.Vm
open Go.Proofs Go.RowKit
def why (k : ByteArray) : AV := .iface 364 (.agg [.lit (.string k)])
end Go.Vm

namespace Go.Vm
open Go.Proofs Go.RowKit
theorem gBin_neqX {P : Program} {t : TypeId} {X : AV} {a b : ByteArray} {K : AV → Prop} (q : Bool) (hX : X = sA a) (h : (a.toList == b.toList) = q) (k : K (.lit (.bool (!q)))) : gBin P .neq t X (.lit (.string b)) K := by
 subst hX
 subst h
 exact k
theorem gBin_eqlX {P : Program} {t : TypeId} {X : AV} {a b : ByteArray} {K : AV → Prop} (q : Bool) (hX : X = sA a) (h : (a.toList == b.toList) = q) (k : K (.lit (.bool q))) : gBin P .eql t X (.lit (.string b)) K := by
 subst hX
 subst h
 exact k
end Go.Vm

namespace Go.Vm
open Go.Proofs Go.RowKit
structure PSt where
 r : Nat
 ini : List (Vers × Nat)
 v : Vers
 G : Nat
end Go.Vm

namespace Go.Vm
open Go.Proofs Go.RowKit
def decN (n : Nat) : List UInt8 := Lib.decDigits n
theorem decN_lt {n : Nat} (h : n < 10) : decN n = [UInt8.ofNat (48 + n)] := by
 unfold decN Lib.decDigits; rw [dif_pos h]
theorem decN_ge {n : Nat} (h : 10 ≤ n) : decN n = decN (n / 10) ++ [UInt8.ofNat (48 + n % 10)] := by
 unfold decN; rw [Lib.decDigits, dif_neg (by omega)]
theorem bT_app (a b : List UInt8) : bT a ++ bT b = bT (a ++ b) := by
 apply bytes_ext
 show ((⟨a.toArray⟩ : ByteArray) ++ (⟨b.toArray⟩ : ByteArray)).data.toList = _
 rw [ByteArray.data_append]
 show (a.toArray ++ b.toArray).toList = a ++ b
 simp
theorem below_grow {w : World} {k : Nat} {os : Array Obj} : Below w.heap.size w (Go.Sort.grow (w.drewN k) os) :=
 ⟨rfl, rfl, rfl, by simp [Go.Sort.grow], fun b hb => by
  show (w.heap ++ os)[b]? = _
  rw [Array.getElem?_append_left hb]⟩
theorem c_itoa {n : Int} (h0 : -9223372036854775808 ≤ n) (h1 : n ≤ 9223372036854775807) (H : List Blk) : ACall Tryz.prog 111 [n' n] H (.ret (sA (bT (Lib.itoa n)))) H := by
 refine ACall.of_below fun O ι w cs hR hargs => ?_
 obtain ⟨l⟩ := cs
 match l, hargs with
 | [c1], hargs =>
  simp only [VRels, and_true] at hargs
  subst hargs
  have ht : Lib.TabIs Tryz.prog w "internal/strconv.uint64pow10" .u64 Lib.pow10Tab := by
   obtain ⟨_, t, f, hw⟩ := hR.tab 1 _ rfl
   have hg : Tryz.prog.globalNamed "internal/strconv.uint64pow10" = some 1 := by kernel_rfl
   unfold Lib.TabIs World.var?
   have hw' : w.heap[1]? = some (.cells _ t f) := hw
   rw [hg, Option.bind_some, hw']
   exact congrArg some (by kernel_rfl)
  refine (Tryz.strconv_Itoa n h0 h1 w ht).mono ?_
  rintro e w' ⟨rfl, k, os, rfl⟩
  exact ⟨rfl, below_grow⟩
 | [], hargs => simp [VRels] at hargs
 | _ :: _ :: _, hargs => simp [VRels] at hargs
theorem c_itoaN {n : Nat} (h : n < 100000) (H : List Blk) : ACall Tryz.prog 111 [n' (n : Nat)] H (.ret (sA (bT (decN n)))) H := by
 have hc := c_itoa (n := (n : Int)) (by omega) (by omega) H
 have e : Lib.itoa (n : Int) = decN n := by
  unfold Lib.itoa
  rw [if_neg (by omega), Int.toNat_natCast]; rfl
 rw [e] at hc
 exact hc
end Go.Vm

namespace Go.Vm
open Go.Proofs Go.RowKit
abbrev EntryD := Int × List Int
def cEntry (x : EntryD) : List AV := [n' x.1, eInts x.2]
def eEntry (x : EntryD) : AV := .agg (cEntry x)
theorem under_eEntry (n : Nat) (x : EntryD) : (eEntry x).under n := ⟨trivial, under_eInts n _, trivial⟩
def manyI (k : Int) : Option (Int × Int) :=
 if k = 1 ∨ k = 2 ∨ k = 4 ∨ k = 6 ∨ k = 7 then some (1, 1) else if k = 3 then some (2, 2) else if k = 8 then some (2, 7) else if k = 9 then some (0, 6) else if k = 5 ∨ k = 10 ∨ k = 11 then some (0, 0) else none
def numOk (l : List Int) : Prop := ∀ n ∈ l, 0 ≤ n ∧ n ≤ 1000
instance (l : List Int) : Decidable (numOk l) := by unfold numOk; infer_instance
def formedI (x : EntryD) : Prop := (∃ p, manyI x.1 = some p ∧ p.1 ≤ (x.2.length : Int) ∧ (x.2.length : Int) ≤ p.2) ∧ numOk x.2
instance (x : EntryD) : Decidable (formedI x) := by
 unfold formedI
 cases h : manyI x.1 with
 | none => exact isFalse fun ⟨⟨p, e, _⟩, _⟩ => by cases e
 | some p => exact decidable_of_iff ((p.1 ≤ (x.2.length : Int) ∧ (x.2.length : Int) ≤ p.2) ∧ numOk x.2) ⟨fun h => ⟨⟨p, rfl, h.1⟩, h.2⟩, fun ⟨⟨q, e, h1⟩, h2⟩ => by cases e; exact ⟨h1, h2⟩⟩
end Go.Vm

namespace Go.Vm
open Go.Proofs Go.RowKit
structure NSt where
 i : Nat
 out : List Int
end Go.Vm

namespace Go.Vm
open Go.Proofs Go.RowKit
theorem CallG.cut {P : Program} {f : FuncId} {args : List AV} {t : Trie Blk} {n : Nat} {K Kp : AV → Trie Blk → Nat → Nat → Prop} (h : CallG P f args t n (fun v _ _ lo => n ≤ lo ∧ v.under n ∧ K v t n noLo) (fun _ _ _ _ => False)) : CallG P f args t n K Kp := by
 obtain ⟨h⟩ := h
 refine .ret fun H hH => ?_
 rcases h H hH with ⟨v, t', n', lo, H', _, hc, hk, h1, h2, hK⟩ | ⟨_, _, _, _, _, _, _, _, h⟩
 ·have hl := hH.len
  exact ⟨v, t, n, noLo, H, hH, hc.cut_same (by rw [hl]; exact h2) (fun id hlt => hk.low id (by omega) hlt) hk.le, Keep.refl _ _, hK⟩
 ·exact h.elim
def nilP : AV := .lit (.pointer none)
set_option maxRecDepth 100000 in
theorem c_isN (H : List Blk) : ACall Tryz.prog 18 [nilP] H (.ret (.lit (.bool false))) H := by
 refine fn_rule (m := false) (fn := Tryz.f18) (c := (Tryz.f18.body).getD .skip) mixed (by kernel_rfl) (by kernel_rfl) (of_decide_eq_true (by kernel_rfl)) ?_ ?_ ?_ H
 ·exact ⟨trivial, trivial⟩
 ·trivial
 ·exact ⟨.inl rfl, FinG.mk _ rfl rfl rfl⟩
set_option maxRecDepth 100000 in
theorem c_AskN (q : EntryD) (H : List Blk) : ACall Tryz.prog 7 [nilP, eEntry q] H (.ret (.tup [.lit (.slice none 0 0), n' 1])) H := by
 refine fn_rule (m := false) (fn := Tryz.f7) (c := (Tryz.f7.body).getD .skip) mixed (by kernel_rfl) (by kernel_rfl) (of_decide_eq_true (by kernel_rfl)) ?_ ?_ ?_ H
 ·exact ⟨trivial, under_eEntry _ _, trivial⟩
 ·exact ⟨trivial, trivial, trivial⟩
 ·refine CallG.pure _ (c_isN) ?_
  refine ifY ?_
  exact ⟨.inl rfl, FinG.mk _ rfl rfl rfl⟩
set_option maxRecDepth 100000 in
theorem c_JourN (H : List Blk) : ACall Tryz.prog 8 [nilP] H (.ret (.tup [sA ⟨#[]⟩, n' 1])) H := by
 refine fn_rule (m := false) (fn := Tryz.f8) (c := (Tryz.f8.body).getD .skip) mixed (by kernel_rfl) (by kernel_rfl) (of_decide_eq_true (by kernel_rfl)) ?_ ?_ ?_ H
 ·exact ⟨trivial, trivial⟩
 ·exact ⟨trivial, trivial, trivial⟩
 ·refine CallG.pure _ (c_isN) ?_
  refine ifY ?_
  exact ⟨.inl rfl, FinG.mk _ rfl rfl rfl⟩
set_option maxRecDepth 100000 in
theorem c_EntN (x : EntryD) (H : List Blk) : ACall Tryz.prog 9 [nilP, eEntry x] H (.ret (n' 1)) H := by
 refine fn_rule (m := false) (fn := Tryz.f9) (c := (Tryz.f9.body).getD .skip) mixed (by kernel_rfl) (by kernel_rfl) (of_decide_eq_true (by kernel_rfl)) ?_ ?_ ?_ H
 ·exact ⟨trivial, under_eEntry _ _, trivial⟩
 ·trivial
 ·refine CallG.pure _ (c_isN) ?_
  refine ifY ?_
  exact ⟨.inl rfl, FinG.mk _ rfl rfl rfl⟩
set_option maxHeartbeats 4000000 in
set_option maxRecDepth 100000 in
theorem nil_law (hk : ∀ H, ACall Tryz.prog 6 [] H (.ret (.lit (.bool true))) H) (x q : EntryD) (H : List Blk) : ACall Tryz.prog 3 [eEntry x, eEntry q] H (.ret (.lit (.bool true))) H := by
 refine fn_rule (m := false) (fn := Tryz.f3) (c := (Tryz.f3.body).getD .skip) mixed (by kernel_rfl) (by kernel_rfl) (of_decide_eq_true (by kernel_rfl)) ?_ ?_ ?_ H
 ·exact ⟨under_eEntry _ _, under_eEntry _ _, trivial⟩
 ·trivial
 ·refine If.mk (fun h1 => ?_) (fun h1 => ?_)
  ·refine ifY ?_
   refine CallG.pure _ (hk) ?_
   exact ⟨.inl rfl, FinG.mk _ rfl rfl rfl⟩
  ·refine If.mk (fun h2 => ?_) (fun h2 => ?_)
   ·refine ifY ?_
    refine CallG.pure _ (hk) ?_
    exact ⟨.inl rfl, FinG.mk _ rfl rfl rfl⟩
   ·refine ifN ?_
    refine LoopG.round (m := false) mixed ?_
    refine If.mk (fun _ => ?_) (fun h => absurd (by decide) h)
    refine ifY ?_
    refine Ex.mk _ rfl ?_
    refine Ex.mk _ rfl ?_
    refine CallG.pure _ (c_AskN q) ?_
    refine Ex.mk _ rfl ?_
    refine Ex.mk _ rfl ?_
    refine CallG.pure _ c_JourN ?_
    refine Ex.mk _ rfl ?_
    refine Ex.mk _ rfl ?_
    refine CallG.pure _ (c_EntN x) ?_
    refine If.mk (fun _ => ?_) (fun h => absurd (by decide) h)
    refine If.mk (fun _ => ?_) (fun h => absurd (by decide) h)
    refine If.mk (fun _ => ?_) (fun h => absurd (by decide) h)
    refine If.mk (fun _ => ?_) (fun h => absurd (by decide) h)
    have hz : ∀ {b : Bool}, (match ((⟨#[]⟩ : ByteArray).toList == (⟨#[]⟩ : ByteArray).toList) with | true => false | false => true) = b → b = false := fun e => by
     rw [str_eq.2 rfl] at e
     exact e.symm
    refine IfB.mk (fun e => by cases hz e) (fun _ => ?_)
    refine Side.mk (by unfold fitsK; kernel_rfl) ?_
    refine LoopG.round (m := false) mixed ?_
    refine If.mk (fun _ => ?_) (fun h => absurd (by decide) h)
    refine ifY ?_
    refine Ex.mk _ rfl ?_
    refine Ex.mk _ rfl ?_
    refine CallG.cut ?_
    refine CallG.inlineP (m := false) (fn := Tryz.f7) (c := (Tryz.f7.body).getD .skip) mixed (by kernel_rfl) (by kernel_rfl) (of_decide_eq_true (by kernel_rfl)) ?_
    refine CallG.cut ?_
    refine CallG.inlineP (m := false) (fn := Tryz.f18) (c := (Tryz.f18.body).getD .skip) mixed (by kernel_rfl) (by kernel_rfl) (of_decide_eq_true (by kernel_rfl)) ?_
    refine .inl ⟨.inl rfl, _, rfl, rfl, leb rfl, trivial, ?_⟩
    refine ifY ?_
    refine .inl ⟨.inl rfl, _, rfl, rfl, leb rfl, ⟨trivial, trivial, trivial⟩, ?_⟩
    refine Ex.mk _ rfl ?_
    refine Ex.mk _ rfl ?_
    refine CallG.cut ?_
    refine CallG.inlineP (m := false) (fn := Tryz.f8) (c := (Tryz.f8.body).getD .skip) mixed (by kernel_rfl) (by kernel_rfl) (of_decide_eq_true (by kernel_rfl)) ?_
    refine CallG.cut ?_
    refine CallG.inlineP (m := false) (fn := Tryz.f18) (c := (Tryz.f18.body).getD .skip) mixed (by kernel_rfl) (by kernel_rfl) (of_decide_eq_true (by kernel_rfl)) ?_
    refine .inl ⟨.inl rfl, _, rfl, rfl, leb rfl, trivial, ?_⟩
    refine ifY ?_
    refine .inl ⟨.inl rfl, _, rfl, rfl, leb rfl, ⟨trivial, trivial, trivial⟩, ?_⟩
    refine Ex.mk _ rfl ?_
    refine Ex.mk _ rfl ?_
    refine CallG.cut ?_
    refine CallG.inlineP (m := false) (fn := Tryz.f9) (c := (Tryz.f9.body).getD .skip) mixed (by kernel_rfl) (by kernel_rfl) (of_decide_eq_true (by kernel_rfl)) ?_
    refine CallG.cut ?_
    refine CallG.inlineP (m := false) (fn := Tryz.f18) (c := (Tryz.f18.body).getD .skip) mixed (by kernel_rfl) (by kernel_rfl) (of_decide_eq_true (by kernel_rfl)) ?_
    refine .inl ⟨.inl rfl, _, rfl, rfl, leb rfl, trivial, ?_⟩
    refine ifY ?_
    refine .inl ⟨.inl rfl, _, rfl, rfl, leb rfl, trivial, ?_⟩
    refine If.mk (fun _ => ?_) (fun h => absurd (by decide) h)
    refine If.mk (fun _ => ?_) (fun h => absurd (by decide) h)
    refine If.mk (fun _ => ?_) (fun h => absurd (by decide) h)
    refine If.mk (fun _ => ?_) (fun h => absurd (by decide) h)
    refine IfB.mk (fun e => by cases hz e) (fun _ => ?_)
    refine Side.mk (by unfold fitsK; kernel_rfl) ?_
    refine LoopG.round (m := false) mixed ?_
    refine If.mk (fun h => absurd h (by decide)) (fun _ => ?_)
    refine ifN ?_
    refine CallG.pure _ hk ?_
    exact ⟨.inl rfl, FinG.mk _ rfl rfl rfl⟩
end Go.Vm

namespace Go.Vm
open Go.Proofs Go.RowKit
noncomputable def toldBy (F : List AV → Option AV) : CallT → CallT := fun _ _ args t n => match F args with
 | some v => .ret v t n noLo
 | none => .fail "told"
theorem toldBy_right {F : List AV → Option AV} {f : FuncId} (h : ∀ args v, F args = some v → ∀ H, ACall Tryz.prog f args H (.ret v) H) (call : CallT) (args : List AV) (t : Trie Blk) (n : Nat) : CRok Tryz.prog f args t n (toldBy F call f args t n) := by
 unfold toldBy
 cases hF : F args with
 | none => trivial
 | some v => exact fun H hH => ⟨H, hH, h args v hF H, Keep.refl _ _⟩
noncomputable def fIndexByte : List AV → Option AV
 | [.lit (.string s), .lit (.int .u8 c)] => some (n' (Lib.indexByte s.data.toList c.toNat.toUInt8))
 | _ => none
theorem fIndexByte_right (args : List AV) (v : AV) (h : fIndexByte args = some v) (H : List Blk) : ACall Tryz.prog 144 args H (.ret v) H := by
 unfold fIndexByte at h
 split at h
 ·rename_i s c
  cases h
  exact ACall.of_pure (vs := [.string s, .int .u8 c]) fun w => Tryz.stringslite_IndexByte s c w
 ·cases h
def decK (n : Nat) : List UInt8 :=
 bif Nat.blt n 10 then [UInt8.ofNat (48 + n)] else bif Nat.blt n 100 then [UInt8.ofNat (48 + n / 10), UInt8.ofNat (48 + n % 10)] else
 bif Nat.blt n 1000 then [UInt8.ofNat (48 + n / 10 / 10), UInt8.ofNat (48 + n / 10 % 10), UInt8.ofNat (48 + n % 10)] else
 [UInt8.ofNat (48 + n / 10 / 10 / 10), UInt8.ofNat (48 + n / 10 / 10 % 10), UInt8.ofNat (48 + n / 10 % 10), UInt8.ofNat (48 + n % 10)]
theorem decK_eq {n : Nat} (h : n < 10000) : decK n = decN n := by
 unfold decK
 cases h1 : Nat.blt n 10 with
 | true => rw [cond_true, decN_lt (Nat.le_of_ble_eq_true h1)]
 | false =>
  have h1 : 10 ≤ n := Nat.le_of_not_lt fun hl => by rw [show Nat.blt n 10 = true from Nat.ble_eq_true_of_le hl] at h1; cases h1
  rw [cond_false, decN_ge h1]
  cases h2 : Nat.blt n 100 with
  | true =>
   have h2 : n < 100 := Nat.le_of_ble_eq_true h2
   rw [cond_true, decN_lt (by omega)]; rfl
  | false =>
   have h2 : 100 ≤ n := Nat.le_of_not_lt fun hl => by rw [show Nat.blt n 100 = true from Nat.ble_eq_true_of_le hl] at h2; cases h2
   rw [cond_false, decN_ge (n := n / 10) (by omega)]
   cases h3 : Nat.blt n 1000 with
   | true =>
    have h3 : n < 1000 := Nat.le_of_ble_eq_true h3
    rw [cond_true, decN_lt (by omega)]; rfl
   | false =>
    have h3 : 1000 ≤ n := Nat.le_of_not_lt fun hl => by rw [show Nat.blt n 1000 = true from Nat.ble_eq_true_of_le hl] at h3; cases h3
    rw [cond_false, decN_ge (n := n / 10 / 10) (by omega), decN_lt (by omega)]; rfl
noncomputable def fItoa : List AV → Option AV
 | [.lit (.int .i64 (.ofNat n))] => bif Nat.ble n 9999 then some (sA (bT (decK n))) else none
 | [.lit (.int .i64 (.negSucc 0))] => some (sA (bT [45, 49]))
 | _ => none
theorem fItoa_right (args : List AV) (v : AV) (h : fItoa args = some v) (H : List Blk) : ACall Tryz.prog 111 args H (.ret v) H := by
 unfold fItoa at h
 split at h
 ·rename_i n
  cases hn : Nat.ble n 9999 with
  | false => rw [hn] at h; cases h
  | true =>
   rw [hn] at h
   cases h
   have hn := Nat.le_of_ble_eq_true hn
   rw [decK_eq (by omega)]
   exact c_itoaN (by omega) H
 ·cases h
  have e : Lib.itoa (-1) = [45, 49] := by
   unfold Lib.itoa
   rw [if_pos (by decide)]
   exact congrArg (45 :: ·) (decN_lt (n := 1) (by decide))
  have := c_itoa (n := -1) (by decide) (by decide) H
  rw [e] at this
  exact this
 ·cases h
noncomputable def fJoin : List AV → Option AV
 | [.sl n cells _, .lit (.string sep)] => match strsOf cells with
  | some xs => bif Nat.beq n cells.length && Nat.ble xs.length 65536 && Nat.ble (joinS xs sep).size 16777216 then some (sA (joinS xs sep)) else none
  | none => none
 | _ => none
theorem strsOf_eq : ∀ {cells : List AV} {xs : List ByteArray}, strsOf cells = some xs → cells = xs.map sA
 | [], xs, h => by cases h; rfl
 | .lit (.string s) :: r, xs, h => by
  have h' : (strsOf r).map (s :: ·) = some xs := h
  cases hr : strsOf r with
  | none => rw [hr] at h'; cases h'
  | some ys => rw [hr] at h'; cases h'; rw [strsOf_eq hr]; rfl
theorem fJoin_right (args : List AV) (v : AV) (h : fJoin args = some v) (H : List Blk) : ACall Tryz.prog 112 args H (.ret v) H := by
 unfold fJoin at h
 split at h
 ·rename_i n cells tail sep
  cases hs : strsOf cells with
  | none => rw [hs] at h; cases h
  | some xs =>
   rw [hs] at h
   simp only at h
   cases hb : (Nat.beq n cells.length && Nat.ble xs.length 65536 && Nat.ble (joinS xs sep).size 16777216) with
   | false => rw [hb] at h; cases h
   | true =>
    rw [hb] at h
    cases h
    rw [Bool.and_eq_true, Bool.and_eq_true] at hb
    have e1 := Nat.eq_of_beq_eq_true hb.1.1
    have e2 := strsOf_eq hs
    have := c_join (xs := xs) (sep := sep) tail (Nat.le_of_ble_eq_true hb.1.2) (Nat.le_of_ble_eq_true hb.2) H
    rw [e1, e2, List.length_map]
    exact this
 ·cases h
noncomputable def fSplit : List AV → Option AV
 | [.lit (.string s), .lit (.string sep)] => match sep.data.toList with
  | [c] => bif Nat.ble s.size 60000 then some (eStrs ((spl c s.data.toList).map bT)) else none
  | _ => none
 | _ => none
theorem fSplit_right (args : List AV) (v : AV) (h : fSplit args = some v) (H : List Blk) : ACall Tryz.prog 137 args H (.ret v) H := by
 unfold fSplit at h
 split at h
 ·rename_i s sep
  split at h
  ·rename_i c hc
   cases hb : Nat.ble s.size 60000 with
   | false => rw [hb] at h; cases h
   | true =>
    rw [hb] at h
    cases h
    have e : sep = ⟨#[c]⟩ := by
     obtain ⟨⟨l⟩⟩ := sep
     have hc' : l = [c] := hc
     rw [hc']
    rw [e]
    exact c_split s.data.toList c (by
     have := Nat.le_of_ble_eq_true hb
     show s.data.toList.length ≤ 60000
     rw [Array.length_toList]; exact this) H
  ·cases h
 ·cases h
noncomputable def kTold0 (f : FuncId) : Option (CallT → CallT) :=
 bif Nat.beq f 25 then some (tryD Tryz.prog dGoes) else bif Nat.beq f 135 then some (tryD Tryz.prog dChest) else bif Nat.beq f 180 then some (tryD Tryz.prog dCue) else
 bif Nat.beq f 195 then some (tryD Tryz.prog dStem) else bif Nat.beq f 216 then some (tryD Tryz.prog dNight) else
 bif Nat.beq f 144 then some (toldBy fIndexByte) else bif Nat.beq f 111 then some (toldBy fItoa) else bif Nat.beq f 112 then some (toldBy fJoin) else bif Nat.beq f 137 then some (toldBy fSplit) else bif Nat.beq f 154 then some toldSolve else none
theorem kTold0_right {f : FuncId} {T : CallT → CallT} (h : kTold0 f = some T) {call : CallT} (hc : SoundC Tryz.prog call) (args : List AV) (t : Trie Blk) (n : Nat) : CRok Tryz.prog f args t n (T call f args t n) := by
 unfold kTold0 at h
 cases h1 : Nat.beq f 25 with
 | true => rw [h1, cond_true] at h; cases h; rw [Nat.eq_of_beq_eq_true h1]; exact tryD_right dGoes_ok hc args t n
 | false =>
 rw [h1, cond_false] at h
 cases h1 : Nat.beq f 135 with
 | true => rw [h1, cond_true] at h; cases h; rw [Nat.eq_of_beq_eq_true h1]; exact tryD_right dChest_ok hc args t n
 | false =>
 rw [h1, cond_false] at h
 cases h1 : Nat.beq f 180 with
 | true => rw [h1, cond_true] at h; cases h; rw [Nat.eq_of_beq_eq_true h1]; exact tryD_right dCue_ok hc args t n
 | false =>
 rw [h1, cond_false] at h
 cases h1 : Nat.beq f 195 with
 | true => rw [h1, cond_true] at h; cases h; rw [Nat.eq_of_beq_eq_true h1]; exact tryD_right dStem_ok hc args t n
 | false =>
 rw [h1, cond_false] at h
 cases h1 : Nat.beq f 216 with
 | true => rw [h1, cond_true] at h; cases h; rw [Nat.eq_of_beq_eq_true h1]; exact tryD_right dNight_ok hc args t n
 | false =>
 rw [h1, cond_false] at h
 cases h1 : Nat.beq f 144 with
 | true => rw [h1, cond_true] at h; cases h; rw [Nat.eq_of_beq_eq_true h1]; exact toldBy_right fIndexByte_right call args t n
 | false =>
 rw [h1, cond_false] at h
 cases h1 : Nat.beq f 111 with
 | true => rw [h1, cond_true] at h; cases h; rw [Nat.eq_of_beq_eq_true h1]; exact toldBy_right fItoa_right call args t n
 | false =>
 rw [h1, cond_false] at h
 cases h1 : Nat.beq f 112 with
 | true => rw [h1, cond_true] at h; cases h; rw [Nat.eq_of_beq_eq_true h1]; exact toldBy_right fJoin_right call args t n
 | false =>
 rw [h1, cond_false] at h
 cases h1 : Nat.beq f 137 with
 | true => rw [h1, cond_true] at h; cases h; rw [Nat.eq_of_beq_eq_true h1]; exact toldBy_right fSplit_right call args t n
 | false =>
 rw [h1, cond_false] at h
 cases h1 : Nat.beq f 154 with
 | true => rw [h1, cond_true] at h; cases h; exact toldSolve_right mixed f hc args t n
 | false => rw [h1, cond_false] at h; cases h
end Go.Vm

namespace Go.Vm
open Go.Proofs Go.RowKit
theorem c_suffix (s p : ByteArray) (hs : s.size ≤ 9223372036854775807) (H : List Blk) : ACall Tryz.prog 39 [sA s, sA p] H (.ret (.lit (.bool (Lib.hasSuffix s.data.toList p.data.toList)))) H :=
 ACall.of_pure (vs := [.string s, .string p]) fun w => Tryz.strings_HasSuffix s p w hs
theorem c_trimSuffix (s p : ByteArray) (hs : s.size ≤ 9223372036854775807) (H : List Blk) : ACall Tryz.prog 42 [sA s, sA p] H (.ret (sA ⟨(Lib.trimSuffix s.data.toList p.data.toList).toArray⟩)) H :=
 ACall.of_pure (vs := [.string s, .string p]) fun w => Tryz.strings_TrimSuffix s p w hs
def scr (L : List (List UInt8)) : List UInt8 := L.flatMap fun l => l ++ [10]
theorem scr_suffix : ∀ {L : List (List UInt8)}, scr L ≠ [] → Lib.hasSuffix (scr L) [10] = true
 | [], h => absurd rfl h
 | [l], _ => by
  unfold Lib.hasSuffix scr
  rw [List.isSuffixOf_iff_suffix]
  exact ⟨l, by simp⟩
 | l :: l2 :: L, _ => by
  have ih := scr_suffix (L := l2 :: L) (fun h => by simp [scr] at h)
  unfold Lib.hasSuffix at ih ⊢
  rw [List.isSuffixOf_iff_suffix] at ih ⊢
  refine ih.trans ⟨l ++ [10], ?_⟩
  rfl
theorem scr_cons (l : List UInt8) (L : List (List UInt8)) : scr (l :: L) = l ++ [10] ++ scr L := rfl
theorem index_scr : ∀ {l : List UInt8} (X : List UInt8), 10 ∉ l → Lib.indexByte (l ++ [10] ++ X) 10 = l.length
 | [], X, _ => by simp [Lib.indexByte]
 | b :: l, X, h => by
  have ih := index_scr X (l := l) fun hm => h (List.mem_cons_of_mem _ hm)
  have hb : (b == 10) = false := by
   rw [beq_eq_false_iff_ne]
   intro e
   exact h (by rw [e]; exact List.mem_cons_self)
  show (if b == 10 then 0 else if Lib.indexByte (l ++ [10] ++ X) 10 == -1 then -1 else Lib.indexByte (l ++ [10] ++ X) 10 + 1) = _
  rw [hb, ih]
  have h2 : ((l.length : Int) == -1) = false := by rw [beq_eq_false_iff_ne]; omega
  rw [h2]
  simp
set_option maxRecDepth 100000 in
theorem c_index84 (l : List UInt8) (hl : l.length ≤ 1000000) (H : List Blk) : ACall Tryz.prog 84 [sA (bT l), .lit (.int .u8 10)] H (.ret (n' (Lib.indexByte l 10))) H := by
 refine fn_rule (m := false) (fn := Tryz.f84) (c := (Tryz.f84.body).getD .skip) mixed (by kernel_rfl) (by kernel_rfl) (of_decide_eq_true (by kernel_rfl)) ?_ ?_ ?_ H
 ·exact ⟨trivial, trivial, trivial⟩
 ·exact trivial
 ·refine CallG.pure _ (fun H => ACall.of_pure (vs := [.string (bT l), .int .u8 10]) fun w => Tryz.stringslite_IndexByte (bT l) 10 w) ?_
  exact ⟨.inl rfl, FinG.mk _ rfl rfl rfl⟩
theorem scr_drop : ∀ (L : List (List UInt8)) (r : Nat), (scr (L.drop r)).length ≤ (scr L).length
 | _, 0 => Nat.le_refl _
 | [], r + 1 => Nat.le_refl _
 | l :: L, r + 1 => by
  have ih := scr_drop L r
  rw [List.drop_succ_cons, scr_cons, List.length_append]
  omega
def outL (ans : Nat → List UInt8) (r : Nat) : List UInt8 := (List.range r).flatMap fun i => ans i ++ [10]
structure SuiteA where
 (b a1 a2 b1 b2 c1 c2 : Int)
 scs : AV
 (cu tu : Int)
 vs : AV
 lf : Int
 (hts figs scenes kinds hides : AV)
 (al ah cl ch off mends room depth : Int)
 cfigs : AV
def SuiteA.cells (s : SuiteA) : List AV := [n' s.b, n' s.a1, n' s.a2, n' s.b1, n' s.b2, n' s.c1, n' s.c2, s.scs, n' s.cu, n' s.tu, s.vs, n' s.lf, s.hts, s.figs, s.scenes, s.kinds, s.hides, n' s.al, n' s.ah, n' s.cl, n' s.ch, n' s.off, n' s.mends, n' s.room, n' s.depth, s.cfigs]
def SuiteA.av (s : SuiteA) : AV := .agg s.cells
def deskC (s : SuiteA) (e : AV) : List AV := .lit (.bool true) :: s.cells ++ [e]
set_option maxRecDepth 100000 in
theorem c_Open0 {s s' : SuiteA} (h81 : ∀ H, ACall Tryz.prog 81 [s.av] H (.ret (.lit (.bool true))) H) (h60 : ∀ H, ACall Tryz.prog 60 [s.av] H (.ret s'.av) H) {t : Trie Blk} (H : List Blk) (hH : HT t 1 H) :
  ∃ H', HT (setL t [(1, .box s.cells 52), (2, .box (deskC s' (.lit (.slice none 0 0))) 55)]) 3 H' ∧ ACall Tryz.prog 38 [s.av] H (.ret (.tup [.ptr 2 0, n' 0])) H' ∧ Keep H H' noLo := by
 refine fn_new (m := false) (fn := Tryz.f38) (c := (Tryz.f38.body).getD .skip) mixed (by kernel_rfl) (by kernel_rfl) (of_decide_eq_true (by kernel_rfl)) ?_ H hH
 refine CallG.pure _ h81 ?_
 refine ifN ?_
 refine CallG.pure _ h60 ?_
 exact ⟨.inl rfl, leb rfl, rfl, ⟨bk rfl rfl, bk rfl rfl, trivial⟩, FinF.mk _ rfl rfl rfl⟩
theorem VRels.last [Outer] {S : Sit} {x y : AV} (hw : ∀ c, VRel S x c → VRel S y c) : ∀ (l : List AV) (cs : List Value), VRels S (l ++ [x]) cs → VRels S (l ++ [y]) cs
 | [], [], h => by simp only [List.nil_append, VRels] at h
 | [], c :: cs, h => by simp only [List.nil_append, VRels] at h ⊢; exact ⟨hw c h.1, h.2⟩
 | a :: l, [], h => by simp only [List.cons_append, VRels] at h
 | a :: l, c :: cs, h => by simp only [List.cons_append, VRels] at h ⊢; exact ⟨h.1, VRels.last hw l cs h.2⟩
theorem c_Open1 {s s' : SuiteA} (h81 : ∀ H, ACall Tryz.prog 81 [s.av] H (.ret (.lit (.bool true))) H) (h60 : ∀ H, ACall Tryz.prog 60 [s.av] H (.ret s'.av) H) {t : Trie Blk} (H : List Blk) (hH : HT t 1 H) :
  ∃ H', HT (setL t [(2, .box (deskC s' (.sl 0 [] (.own 3 0 2))) 55), (3, .row 0), (1, .box s.cells 52), (2, .box (deskC s' (.lit (.slice none 0 0))) 55)]) 4 H' ∧ ACall Tryz.prog 38 [s.av] H (.ret (.tup [.ptr 2 0, n' 0])) H' ∧ Keep H H' noLo := by
 obtain ⟨H', h1, h2, h3⟩ := c_Open0 h81 h60 H hH
 have hl := h1.len
 have hl0 := hH.len
 have hid : H'[2]? = some (.box (deskC s' (.lit (.slice none 0 0))) 55) := h1.blk 2 _ (by
  show get (set (set t 2 _) 1 _) 2 = _
  rw [get_set_other _ _ _ _ (by omega), get_set_same])
 have hid2 : (H' ++ [.row 0])[2]? = some (.box (deskC s' (.lit (.slice none 0 0))) 55) := by rw [List.getElem?_append_left (by omega)]; exact hid
 have hrow : (H' ++ [.row 0])[3]? = some (.row 0) := by rw [List.getElem?_append_right (by omega), show 3 - H'.length = 0 by omega]; rfl
 have hm := h2.more (.row 0) (v' := .tup [.ptr 2 0, n' 0]) (fun _ _ _ _ h => h) rfl
 have hx := hm.boxL (cells' := deskC s' (.sl 0 [] (.own 3 0 2))) hid2 fun O ι w cs h => VRels.last (fun c hc => WeakH.own 2 hrow O ι w c hc) _ _ h
 refine ⟨_, (h1.push (.row 0)).set (by omega) _, hx, ⟨?_, fun id _ hlt => ?_, fun id hd => ?_⟩⟩
 ·have := h3.le; simp; omega
 ·rw [List.getElem?_set_ne (by omega), List.getElem?_append_left (by omega)]
  exact h3.low id (by assumption) hlt
 ·have hlt := (List.getElem?_eq_some_iff.1 hd).1
  rw [List.getElem?_set_ne (by omega), List.getElem?_append_left (by omega)]
  exact h3.marks id hd
def coT (s s' : SuiteA) (e : AV) (g : Nat) (out left : List UInt8) : List (Nat × Blk) := [(0, .box s.cells 52), (1, .box s.cells 52), (2, .box (deskC s' e) 55), (3, .row g), (4, .box [.ptr 2 0] 30), (5, .box [sA (bT out)] 9), (6, .box [sA (bT left)] 9)]
def coP (s s' : SuiteA) (e : AV) (g : Nat) : List (Nat × Blk) := [(0, .box s.cells 52), (1, .box s.cells 52), (2, .box (deskC s' e) 55), (3, .row g)]
def coS : List (Nat × AV) := [(6, .ptr 4 0), (8, .ptr 5 0), (29, .fn (.func 83) [] [.ptr 6 0])]
noncomputable def coR (st : LoopState) : Blk := lpB Tryz.f16 st coS 7
theorem outL_succ (ans : Nat → List UInt8) (r : Nat) : outL ans (r + 1) = outL ans r ++ (ans r ++ [10]) := by
 unfold outL
 rw [List.range_succ, List.flatMap_append]
 simp
theorem trim_nl (l : List UInt8) : Lib.trimSuffix (l ++ [10]) [10] = l := by
 unfold Lib.trimSuffix
 rw [if_pos (by unfold Lib.hasSuffix; rw [List.isSuffixOf_iff_suffix]; exact ⟨l, rfl⟩), List.length_append]
 exact List.take_left
theorem under_coR (st : LoopState) : (coR st).under 9 := under_lpB ⟨ltb rfl, ltb rfl, ⟨trivial, ltb rfl, trivial⟩, trivial⟩ (ltb rfl)
theorem under_desk {s' : SuiteA} {e : AV} (n : Nat) (hn : 4 ≤ n) (hus : AV.unders 0 s'.cells) (he : e.under 4) : AV.unders n (deskC s' e) := AV.unders_mem.2 fun a ha => by
 rcases List.mem_append.1 ha with ha | ha
 ·rcases List.mem_cons.1 ha with rfl | ha
  ·exact trivial
  ·exact AV.under_mono (Nat.zero_le _) a (AV.unders_mem.1 hus a ha)
 ·rw [List.mem_singleton.1 ha]; exact AV.under_mono hn _ he
theorem under_coP {s s' : SuiteA} {e : AV} {g : Nat} (hu : AV.unders 0 s.cells) (hus : AV.unders 0 s'.cells) (he : e.under 4) : ∀ q ∈ coP s s' e g, q.2.under 4 := fun q hq => by
 have h1 : ∀ {l : List AV}, AV.unders 0 l → AV.unders 4 l := fun h => AV.unders_mem.2 fun a ha => AV.under_mono (by omega) a (AV.unders_mem.1 h a ha)
 rcases List.mem_cons.1 hq with rfl | hq
 ·exact h1 hu
 ·rcases List.mem_cons.1 hq with rfl | hq
  ·exact h1 hu
  ·rcases List.mem_cons.1 hq with rfl | hq
   ·exact under_desk 4 (Nat.le_refl _) hus he
   ·rcases List.mem_cons.1 hq with rfl | hq
    ·trivial
    ·cases hq
set_option maxHeartbeats 4000000 in
set_option maxRecDepth 100000 in
theorem c_ConsoleG {s s' : SuiteA} {L : List (List UInt8)} {E : Nat → AV} {G : Nat → Nat} {ans : Nat → List UInt8} (hL : ∀ l ∈ L, 10 ∉ l) (hlen : (scr L).length ≤ 1000) (hout : ∀ r, r ≤ L.length → (outL ans r).length ≤ 1000000)
  (hu : AV.unders 0 s.cells) (h81 : ∀ H, ACall Tryz.prog 81 [s.av] H (.ret (.lit (.bool true))) H) (h60 : ∀ H, ACall Tryz.prog 60 [s.av] H (.ret s'.av) H) (hE : E 0 = .sl 0 [] (.own 3 0 2)) (hG : G 0 = 0) (hus : AV.unders 0 s'.cells) (hEu : ∀ r, (E r).under 4)
  (hstep : ∀ r (hr : r < L.length), ACall Tryz.prog 41 [.ptr 2 0, sA (bT L[r])] (hp (coP s s' (E r) (G r))) (.ret (sA (bT (ans r)))) (hp (coP s s' (E (r + 1)) (G (r + 1)))))
  (H : List Blk) : ACall Tryz.prog 16 [s.av, sA (bT (scr L))] H (.ret (.tup [sA (bT (outL ans L.length)), n' 0])) H := by
 obtain ⟨X, hX⟩ : ∃ X, X = sA (bT (scr L)) := ⟨_, rfl⟩
 rw [← hX]
 refine fn_ruleM (m := false) (fn := Tryz.f16) (c := (Tryz.f16.body).getD .skip) mixed (by kernel_rfl) (by kernel_rfl) (of_decide_eq_true (by kernel_rfl)) ?_ ?_ ?_ H
 ·exact ⟨hu, by rw [hX]; trivial, trivial⟩
 ·exact ⟨trivial, trivial, trivial⟩
 ·refine CallG.fresh (n0 := 1) [s.av] [(0, .box s.cells 52)] rfl (.cons (fun H => WeakH.refl _ H) .nil) ⟨bk rfl rfl, trivial⟩ ?_
  refine CallG.new (n1 := 4) (L1 := [(2, .box (deskC s' (.sl 0 [] (.own 3 0 2))) 55), (3, .row 0), (1, .box s.cells 52), (2, .box (deskC s' (.lit (.slice none 0 0))) 55)]) (.tup [.ptr 2 0, n' 0]) (fun H hH => c_Open1 h81 h60 H hH) ?_
  refine If.mk (fun _ => ?_) (fun h => absurd (by decide) h)
  refine ifN ?_
  refine now_of (r := .val (n' (scr L).length) .same) (by rw [hX]; rfl) ?_
  refine If.mk (fun h => absurd h (by omega)) (fun _ => ?_)
  refine ifN ?_
  rcases hq : ((bT (scr L)).toList == (⟨#[]⟩ : ByteArray).toList) with _ | _
  rotate_left
  case' refine_3.true =>
   refine gBin_neqX true hX hq ?_
   refine ifN ?_
  case' refine_3.false =>
   refine gBin_neqX false hX hq ?_
   refine CallG.pure (.lit (.bool true)) (fun H => by
    have h := c_suffix (bT (scr L)) ⟨#[10]⟩ (by rw [bT_size]; omega) H
    have e : Lib.hasSuffix (bT (scr L)).data.toList (⟨#[10]⟩ : ByteArray).data.toList = true := scr_suffix (fun h => by
     rw [h, show ((bT []).toList == (⟨#[]⟩ : ByteArray).toList) = true from str_eq.2 rfl] at hq
     cases hq)
    rw [e, ← hX] at h
    exact h) ?_
   refine ifN ?_
  all_goals
   refine CallG.inline (m := false) (fn := Tryz.f40) (c := (Tryz.f40.body).getD .skip) mixed (by kernel_rfl) (by kernel_rfl) (of_decide_eq_true (by kernel_rfl)) ?_
   refine ⟨.inl rfl, _, rfl, rfl, ?_⟩
   refine RangeG.fresh (n0 := 7) coS (coT s s' (E 0) (G 0) [] (scr L)) rfl ?_ ?_ ?_
   ·exact ⟨⟨_, rfl, Weak.refl _ _⟩, ⟨_, rfl, Weak.refl _ _⟩, ⟨_, rfl, Weak.refl _ _⟩, trivial⟩
   ·rw [hE, hG]
    subst hX
    exact ⟨bk rfl rfl, bk rfl rfl, bk rfl rfl, bk rfl rfl, bk rfl rfl, bk rfl rfl, bk rfl rfl, trivial⟩
   refine RangeG.after ?_
   refine RangeG.outer (f := 83) (first := []) (captured := [.ptr 6 0]) rfl rfl rfl ?_
   refine CallG.inlineP (m := false) (fn := Tryz.f83) (c := (Tryz.f83.body).getD .skip) mixed (by kernel_rfl) (by kernel_rfl) (of_decide_eq_true (by kernel_rfl)) ?_
   refine loop_up mixed (m := false) (fun _ => [(0, .yld 8), (1, .ptr 6 0)]) (fun r => coT s s' (E r) (G r) (outL ans r) (scr (L.drop r)) ++ [(7, .defd), (8, coR .ready)]) (fun _ => True) L.length 2 (leb rfl) trivial ?_ ?_ ?_
   ·exact ⟨wp rfl (ltb rfl), wp rfl (ltb rfl), trivial⟩
   ·exact ⟨bk rfl rfl, bk rfl rfl, bk rfl rfl, bk rfl rfl, bk rfl rfl, bk rfl rfl, bk rfl rfl, bk rfl rfl, bk rfl rfl, trivial⟩
   intro r hr _
   refine If.mk (fun h1 => ?_) (fun h1 => ?_)
   ·refine ifY ?_
    have hr' : r < L.length := by
     rcases Nat.lt_or_ge r L.length with h | h
     ·exact h
     ·rw [List.drop_of_length_le h] at h1
      exact absurd h1 (by decide)
    have hd : L.drop r = L[r] :: L.drop (r + 1) := List.drop_eq_getElem_cons hr'
    have hle : (scr (L.drop r)).length ≤ 1000 := Nat.le_trans (scr_drop L r) hlen
    refine CallG.pure (n' L[r].length) (fun H => by
     have h := c_index84 (scr (L.drop r)) (by omega) H
     rw [hd, scr_cons, index_scr _ (hL _ (List.getElem_mem hr')), ← scr_cons, ← hd] at h
     exact h) ?_
    refine If.mk (fun _ => ?_) (fun h => absurd (Int.natCast_nonneg _) h)
    refine ifY ?_
    have hsz : (scr (L.drop r)).length = L[r].length + 1 + (scr (L.drop (r + 1))).length := by
     rw [hd, scr_cons, List.length_append, List.length_append]; rfl
    have hx1 : (bT (scr (L.drop r))).extract 0 (L[r].length + 1) = bT (L[r] ++ [10]) := by
     rw [bT_extract, hd, scr_cons, List.drop_zero, List.take_append_of_le_length (by rw [List.length_append]; exact Nat.le_refl _), List.take_of_length_le (by rw [List.length_append]; exact Nat.le_refl _)]
    have hx2 : (bT (scr (L.drop r))).extract (L[r].length + 1) (bT (scr (L.drop r))).size = bT (scr (L.drop (r + 1))) := by
     rw [bT_extract, List.take_of_length_le (by rw [bT_size]; exact Nat.le_refl _), hd, scr_cons, List.drop_append_of_le_length (by rw [List.length_append]; exact Nat.le_refl _), List.drop_of_length_le (by rw [List.length_append]; exact Nat.le_refl _), List.nil_append]
    refine Side.mk (fits64 (by omega)) ?_
    refine Ex.mk _ (aop_slice (a := sA (bT (scr (L.drop r)))) (l := none) (h := some (L[r].length + 1)) rfl rfl rfl (nat_of (by omega)) rfl rfl ((slice_str ⟨Nat.zero_le _, by show L[r].length + 1 ≤ (scr (L.drop r)).length; omega⟩).trans (congrArg (fun x => some (sA x)) hx1))) ?_
    refine Side.mk (fits64 (by omega)) ?_
    refine Ex.mk _ (aop_slice (a := sA (bT (scr (L.drop r)))) (l := some (L[r].length + 1)) (h := none) rfl rfl (nat_of (by omega)) rfl rfl rfl ((slice_str ⟨by show L[r].length + 1 ≤ (scr (L.drop r)).length; omega, Nat.le_refl _⟩).trans (congrArg (fun x => some (sA x)) hx2))) ?_
    refine RoundG.fresh (n0 := 19) (coT s s' (E r) (G r) (outL ans r) (scr (L.drop (r + 1))) ++ [(7, .defd), (8, coR .ready)]) rfl ?_ ?_
    ·exact ⟨bk rfl rfl, bk rfl rfl, bk rfl rfl, bk rfl rfl, bk rfl rfl, bk rfl rfl, bk rfl rfl, bk rfl rfl, bk rfl rfl, trivial⟩
    refine RoundG.introW (m := false) mixed rfl rfl (by decide) ?_
    refine ⟨rfl, _, rfl, rfl, coS ++ [(9, sA (bT (L[r] ++ [10])))], coT s s' (E r) (G r) (outL ans r) (scr (L.drop (r + 1))) ++ [(7, .defd), (8, coR .busy)], 19, rfl, ?_, ?_, ?_⟩
    ·exact ⟨⟨_, rfl, Weak.refl _ _⟩, ⟨_, rfl, Weak.refl _ _⟩, ⟨_, rfl, Weak.refl _ _⟩, ⟨_, rfl, Weak.refl _ _⟩, trivial⟩
    ·exact ⟨bk rfl rfl, bk rfl rfl, bk rfl rfl, bk rfl rfl, bk rfl rfl, bk rfl rfl, bk rfl rfl, bk rfl rfl, bk rfl rfl, trivial⟩
    refine WR.block (WR.late (m := false) mixed 152 3 [5, 4] (by kernel_rfl) ?_)
    refine ⟨rfl, ?_⟩
    refine ⟨rfl, ?_⟩
    refine CallG.pure (sA (bT L[r])) (fun H => by
     have h := c_trimSuffix (bT (L[r] ++ [10])) ⟨#[10]⟩ (by rw [bT_size, List.length_append]; show L[r].length + 1 ≤ _; omega) H
     have e : (⟨(Lib.trimSuffix (bT (L[r] ++ [10])).data.toList (⟨#[10]⟩ : ByteArray).data.toList).toArray⟩ : ByteArray) = bT L[r] := congrArg (fun l : List UInt8 => (⟨l.toArray⟩ : ByteArray)) (trim_nl L[r])
     rw [e] at h
     exact h) ?_
    refine LateG.mk ⟨⟨_, rfl, rfl, rfl⟩, ⟨_, rfl, rfl, rfl⟩, trivial⟩ ?_
    refine CallG.pre [.ptr 2 0, sA (bT L[r])] (coP s s' (E r) (G r)) (coP s s' (E (r + 1)) (G (r + 1))) (sA (bT (ans r))) 2 (.cons (fun H => WeakH.refl _ H) (.cons (fun H => WeakH.refl _ H) .nil)) ⟨rfl, rfl, rfl, rfl, trivial⟩ ⟨rfl, rfl, rfl, rfl, trivial⟩ rfl ⟨(fun e => by cases e), (fun e => by cases e), (fun e => by cases e), (fun e => by cases e), trivial⟩ ⟨bk rfl rfl, bk rfl rfl, bk rfl rfl, bk rfl rfl, trivial⟩ rfl ⟨ltb rfl, trivial, trivial⟩ rfl (under_coP hu hus (hEu r)) (under_coP hu hus (hEu _)) (hstep r hr') ?_
    refine LateG.mk ⟨⟨_, rfl, rfl, rfl⟩, ⟨_, rfl, rfl, rfl⟩, trivial⟩ ?_
    have ho1 := hout (r + 1) (by omega)
    rw [outL_succ, List.length_append, List.length_append] at ho1
    refine now_of (bin_add (a := bT (ans r)) (b := bT [10]) (by rw [bT_size, bT_size]; show _ + 1 ≤ _; simp at ho1; omega)) ?_
    refine now_of (bin_add (a := bT (outL ans r)) (b := bT (ans r) ++ bT [10]) (by rw [bT_app, bT_size, bT_size, List.length_append]; simp at ho1 ⊢; omega)) ?_
    refine ⟨none, _, rfl, rfl, ?_⟩
    refine ifN ?_
    have hnew : bT (outL ans r) ++ (bT (ans r) ++ bT [10]) = bT (outL ans (r + 1)) := by rw [bT_app, bT_app, outL_succ]
    refine ⟨leb rfl, rfl, hr', trivial, ⟨wp rfl (ltb rfl), wp rfl (ltb rfl), trivial⟩, ?_, ?_⟩
    ·exact ⟨bk rfl rfl, bk rfl rfl, bk rfl rfl, bk rfl rfl, bk rfl rfl, ⟨congrArg (fun x => some (Blk.box [sA x] 9)) hnew, ltb rfl⟩, bk rfl rfl, bk rfl rfl, bk rfl rfl, trivial⟩
    ·exact ⟨⟨_, rfl, under_desk 9 (by omega) hus (hEu _)⟩, ⟨_, rfl, trivial⟩, ⟨_, rfl, ltb rfl, trivial⟩, ⟨_, rfl, trivial, trivial⟩, ⟨_, rfl, trivial, trivial⟩, ⟨_, rfl, trivial⟩, ⟨_, rfl, under_coR _⟩, trivial⟩
   ·refine ifN ?_
    have er : r = L.length := by
     rcases Nat.lt_or_ge r L.length with h | h
     ·exfalso
      have hd : L.drop r = L[r] :: L.drop (r + 1) := List.drop_eq_getElem_cons h
      rw [hd, bT_size, scr_cons, List.length_append, List.length_append] at h1
      simp at h1
      omega
     ·omega
    subst er
    refine ⟨leb rfl, .inl ⟨.inr rfl, _, rfl, rfl, ?_⟩⟩
    refine ⟨_, _, rfl, (fun e => by cases e), rfl, rfl, [(8, .ptr 5 0)], [(5, .box [sA (bT (outL ans L.length))] 9)], 9, rfl, ?_, ?_, ?_⟩
    ·exact ⟨⟨_, rfl, Weak.refl _ _⟩, trivial⟩
    ·exact ⟨bk rfl rfl, trivial⟩
    exact ⟨.inl rfl, FinM.mk _ rfl rfl rfl⟩
end Go.Vm
