/-
  Texts of the proof, part 21: the machine, contracts of functions, plain laws. (Own work.)
-/
import Derived.Test.YteefbiehcfmoeaaGreatDoorG14DalangParses
import Derived.Test.YteefbiehcfmoeaaGreatDoorG20DalangParses
import Derived.Laws.RangeString
import Derived.Test.YteefbiehcfmoeaaGreatDoorG15DalangParses

namespace Go.Vm
open Go.Proofs Go.RowKit
def why (k : ByteArray) : AV := .iface 364 (.agg [.lit (.string k)])
theorem dec_big {s : ByteArray} {pos : Nat} (h : pos < s.size) (h2 : 128 ≤ (s[pos]'h).toNat) : 128 ≤ (Utf8.decode s pos).1 := by
 have e : s.get! (pos + 0) = s[pos]'h := by
  show s.get! pos = _
  simp [ByteArray.get!, getElem!_pos, h]
  rfl
 unfold Utf8.decode
 simp only [e]
 rw [if_neg (by omega)]
 have hr : 128 ≤ (Utf8.runeError, 1).1 := by decide
 split
 ·split
  ·rename_i hc; exact hc
  ·exact hr
 ·split
  ·split
   ·rename_i hc
    simp only [Bool.and_eq_true, decide_eq_true_eq] at hc
    exact Nat.le_trans (by decide) hc.1
   ·exact hr
  ·split
   ·split
    ·rename_i hc
     simp only [Bool.and_eq_true, decide_eq_true_eq] at hc
     exact Nat.le_trans (by decide) hc.1
    ·exact hr
   ·exact hr
theorem dec_dig {u : List UInt8} {j : Nat} {x : UInt8} (hx : u[j]? = some x) (h1 : 48 ≤ (Utf8.decode (bT u) j).1) (h2 : (Utf8.decode (bT u) j).1 ≤ 57) : isDig x = true ∧ Utf8.decode (bT u) j = (x.toNat, 1) := by
 obtain ⟨h', rfl⟩ := List.getElem?_eq_some_iff.1 hx
 have h : j < (bT u).size := h'
 rcases Nat.lt_or_ge ((bT u)[j]'h).toNat 128 with hb | hb
 ·have e := decode_ascii (bT u) j h hb
  rw [e] at h1 h2
  refine ⟨?_, e⟩
  unfold isDig
  simp only [Bool.and_eq_true, decide_eq_true_eq]
  exact ⟨h1, h2⟩
 ·have := dec_big h hb
  omega
theorem dig_dec {u : List UInt8} {j : Nat} {x : UInt8} (hx : u[j]? = some x) (hd : isDig x = true) : Utf8.decode (bT u) j = (x.toNat, 1) ∧ 48 ≤ x.toNat ∧ x.toNat ≤ 57 := by
 obtain ⟨h', rfl⟩ := List.getElem?_eq_some_iff.1 hx
 have h : j < (bT u).size := h'
 unfold isDig at hd
 simp only [Bool.and_eq_true, decide_eq_true_eq] at hd
 exact ⟨decode_ascii (bT u) j h (by show u[j].toNat < 128; omega), hd.1, hd.2⟩
def numAt (u : List UInt8) : Nat → Nat
 | 0 => 0
 | j + 1 => 10 * numAt u j + dg (u.getD j 0)
theorem sA_inj {a b : ByteArray} (h : (a.toList == b.toList) = true) : a = b := str_eq.1 h
theorem aop_next {P : Program} {m : Bool} {g : Nat → Option Blk} {n : Nat} {ρ : Operand → Option AV} {o : Oper} {x : Operand} {id pos : Nat} {s : ByteArray} (ho : o.op = .next x true) (hx : ρ x = some (.ptr id 0)) (hg : g id = some (.iterS s pos)) (h : pos < s.size) :
  aopF P m g n ρ o = some (.val (.tup [.lit (.bool true), .lit (goInt pos), .lit (.int .i32 (Utf8.decode s pos).1)]) (.set id (.iterS s (pos + (Utf8.decode s pos).2)))) := by
 rw [aopF_fun]
 obtain ⟨dst, op, ty, pos', after, guard⟩ := o
 simp only at ho
 subst ho
 simp only [aopT, hx, hg, h, if_true]
theorem aop_nextE {P : Program} {m : Bool} {g : Nat → Option Blk} {n : Nat} {ρ : Operand → Option AV} {o : Oper} {x : Operand} {id pos : Nat} {s : ByteArray} (ho : o.op = .next x true) (hx : ρ x = some (.ptr id 0)) (hg : g id = some (.iterS s pos)) (h : ¬ pos < s.size) :
  aopF P m g n ρ o = some (.val (.tup [.lit (.bool false)]) .same) := by
 rw [aopF_fun]
 obtain ⟨dst, op, ty, pos', after, guard⟩ := o
 simp only at ho
 subst ho
 simp only [aopT, hx, hg, h, if_false]
end Go.Vm

namespace Go.Vm
open Go.Proofs Go.RowKit
theorem gBin_neqX {P : Program} {t : TypeId} {X : AV} {a b : ByteArray} {K : AV → Prop} (q : Bool) (hX : X = sA a) (h : (a.toList == b.toList) = q) (k : K (.lit (.bool (!q)))) : gBin P .neq t X (.lit (.string b)) K := by
 subst hX
 subst h
 exact k
theorem gBin_eqlX {P : Program} {t : TypeId} {X : AV} {a b : ByteArray} {K : AV → Prop} (q : Bool) (hX : X = sA a) (h : (a.toList == b.toList) = q) (k : K (.lit (.bool q))) : gBin P .eql t X (.lit (.string b)) K := by
 subst hX
 subst h
 exact k
theorem fits32 {n : Int} (h : -2147483648 ≤ n ∧ n < 2147483648) : fitsK .i32 n := by
 unfold fitsK
 simp only [IntKind.wrap, IntKind.bits, IntKind.signed]
 simp
 omega
theorem dig_val {x : UInt8} (h : isDig x = true) : IntKind.i64.wrap (((x.toNat : Nat) : Int) - 48) = ((dg x : Nat) : Int) := by
 obtain ⟨h1, h2⟩ := isDig_dg h
 rw [show ((x.toNat : Nat) : Int) - 48 = ((dg x : Nat) : Int) by omega]
 exact wrap_i64 (by omega) (by omega)
end Go.Vm

namespace Go.Vm
open Go.Proofs Go.RowKit
theorem appT_ownM {P : Program} {m : Bool} {g : Nat → Option Blk} {n sT xT e size bytes len k id gen : Nat} {z : Value} {cells new : List AV} {x : AV} (h1 : tslice P sT = some e) (h2 : tsz P e = some size) (h3 : tz P e = some z) (h4 : tbytes P e = some bytes)
  (h5 : (tsrc P xT && (decide (bytes ≤ 2097152) && decide (z.cells.size = size))) = true) (h6 : srcT g size x = some (k, new)) (h7 : 0 < k) (h8 : cells.length = len * size) (h9 : len + k ≤ 2097152) (h10 : g id = some (.row gen)) (h11 : new.all AV.one = true) :
  appT P m g n sT xT (.sl len cells (.own id gen size)) x = some (.sl (len + k) (cells ++ new) (.own id (gen + 1) size), .set id (.row (gen + 1))) := by
 unfold appT
 simp only [h1, h2, h3, h4, h5, h6, h10, h11, if_true]
 rw [if_neg (by omega), if_pos ⟨h8, h9⟩, if_pos ⟨trivial, trivial, trivial⟩]
structure PSt where
 r : Nat
 ini : List (Vers × Nat)
 v : Vers
 G : Nat
end Go.Vm

namespace Go.Vm
open Go.Proofs Go.RowKit
theorem idx_bT {l : List UInt8} {i : Int} {r : Nat} {x : UInt8} (hi : i = r) (h : l[r]? = some x) : indexA Tryz.prog 9 (sA (bT l)) (n' i) = some (.lit (.int .u8 (x.toNat : Nat))) := by
 subst hi
 obtain ⟨h1, rfl⟩ := List.getElem?_eq_some_iff.1 h
 rw [idx_str (s := bT l) (j := r) h1]
 have e : byteI (bT l) r = (l[r]).toNat := by
  unfold byteI
  rw [List.getD_eq_getElem?_getD]
  show ((l[r]?).getD 0).toNat = _
  rw [h]
  rfl
 rw [e]
def cutR (c : UInt8) (l : List UInt8) : Nat → List (List UInt8) × Nat
 | 0 => ([], 0)
 | i + 1 => if l[i]? = some c then ((cutR c l i).1 ++ [(l.take i).drop (cutR c l i).2], i + 1) else cutR c l i
theorem cutR_spec {c : UInt8} {l : List UInt8} : ∀ {i : Nat}, i ≤ l.length → (cutR c l i).2 ≤ i ∧ (cutR c l i).1.length ≤ i ∧ c ∉ (l.take i).drop (cutR c l i).2 ∧ spl c l = (cutR c l i).1 ++ spl c (l.drop (cutR c l i).2)
 | 0, _ => ⟨Nat.le_refl _, Nat.le_refl _, by simp, rfl⟩
 | i + 1, h => by
  obtain ⟨h1, h2, h3, h4⟩ := cutR_spec (c := c) (l := l) (i := i) (by omega)
  obtain ⟨x, hx⟩ : ∃ x, l[i]? = some x := ⟨_, List.getElem?_eq_getElem (by omega)⟩
  rw [cutR]
  by_cases e : l[i]? = some c
  ·rw [if_pos e]
   refine ⟨Nat.le_refl _, by rw [List.length_append]; show _ + 1 ≤ _; omega, by simp, ?_⟩
   have hd : ∀ q, q ≤ i → l.drop q = (l.take i).drop q ++ c :: l.drop (i + 1) := fun q hq => by
    conv => lhs; rw [← List.take_append_drop i l]
    rw [List.drop_append_of_le_length (by rw [List.length_take]; omega)]
    congr 1
    obtain ⟨hi, he⟩ := List.getElem?_eq_some_iff.1 e
    rw [List.drop_eq_getElem_cons hi, he]
   rw [h4, hd _ h1, spl_front _ h3, List.append_assoc]
   rfl
  ·rw [if_neg e]
   refine ⟨by omega, by omega, ?_, h4⟩
   rw [take_snocB hx, List.drop_append_of_le_length (by rw [List.length_take]; omega)]
   intro hm
   rcases List.mem_append.1 hm with hm | hm
   ·exact h3 hm
   ·rw [List.mem_singleton.1 hm] at e
    exact e hx
theorem cutR_end {c : UInt8} {l : List UInt8} : spl c l = (cutR c l l.length).1 ++ [l.drop (cutR c l l.length).2] := by
 obtain ⟨_, _, h3, h4⟩ := cutR_spec (c := c) (l := l) (Nat.le_refl _)
 rw [List.take_length] at h3
 rw [h4, spl_none (List.count_eq_zero.2 h3)]
theorem app_strG {m : Bool} {g : Nat → Option Blk} {n id : Nat} {L : List (List UInt8)} {s : ByteArray} (h2 : L.length < 2097152) (hg : g id = some (.row L.length)) :
  appT Tryz.prog m g n 93 93 (.sl L.length ((L.map bT).map sA) (.own id L.length 1)) (.sl 1 [sA s] .full) = some (.sl (L.length + 1) ((L.map bT).map sA ++ [sA s]) (.own id (L.length + 1) 1), .set id (.row (L.length + 1))) :=
 appT_ownM (e := 9) (bytes := 16) (z := .string ByteArray.empty) (by kernel_rfl) (by kernel_rfl) (by kernel_rfl) (by kernel_rfl) (by kernel_rfl) rfl (by omega) (by rw [List.length_map, List.length_map]; omega) (by omega) hg rfl
theorem slice_bT {l : List UInt8} {a b : Nat} (h : a ≤ b) (h2 : b ≤ l.length) : sliceA Tryz.prog 9 (sA (bT l)) (some a) (some b) none = some (sA (bT ((l.take b).drop a))) := by
 rw [slice_str (s := bT l) (a := some a) (b := some b) ⟨h, h2⟩]
 exact congrArg (fun x => some (sA x)) (bT_extract l a b)
theorem slice_bT2 {l : List UInt8} {a : Nat} (h : a ≤ l.length) : sliceA Tryz.prog 9 (sA (bT l)) (some a) none none = some (sA (bT (l.drop a))) := by
 rw [slice_str (s := bT l) (a := some a) (b := none) ⟨h, Nat.le_refl _⟩]
 refine congrArg (fun x => some (sA x)) ((bT_extract l a (bT l).size).trans ?_)
 rw [bT_size, List.take_length]
set_option maxRecDepth 100000 in
theorem c_splitR (l : List UInt8) (c : UInt8) (hl : l.length ≤ 60000) (H : List Blk) : ACall Tryz.prog 36 [sA (bT l), .lit (.int .u8 (c.toNat : Nat))] H (.ret (eStrs ((spl c l).map bT))) H := by
 refine fn_rule (m := false) (fn := Tryz.f36) (c := (Tryz.f36.body).getD .skip) mixed (by kernel_rfl) (by kernel_rfl) (of_decide_eq_true (by kernel_rfl)) ?_ ?_ ?_ H
 ·exact ⟨trivial, trivial, trivial⟩
 ·exact under_eStrs _ _
 ·refine LoopG.ghost (LoopG.at (n0 := 1) rfl (loop_up mixed (m := false) (fun i => [(0, sA (bT l)), (1, .lit (.int .u8 (c.toNat : Nat))), (5, .sl (cutR c l i).1.length (((cutR c l i).1.map bT).map sA) (.own 0 (cutR c l i).1.length 1)), (6, n' (cutR c l i).2), (7, n' i)]) (fun i => [(0, .row (cutR c l i).1.length)]) (fun _ => True) l.length 0 (Nat.zero_le _) trivial ?_ ?_ ?_))
  ·exact ⟨wp rfl trivial, wp rfl trivial, ⟨_, rfl, Weak.own (r := 0) (g := 0) 1 rfl, ⟨trivial, ltb rfl⟩⟩, wp rfl trivial, wp rfl trivial, trivial⟩
  ·exact ⟨bk rfl rfl, trivial⟩
  ·intro i hi _
   obtain ⟨h1, h2, h3, h4⟩ := cutR_spec (c := c) (l := l) hi
   have hsz : (bT l).size = l.length := rfl
   refine If.mk (fun h5 => ?_) (fun h5 => ?_)
   ·refine ifY ?_
    obtain ⟨x, hx⟩ : ∃ x, l[i]? = some x := ⟨_, List.getElem?_eq_getElem (by omega)⟩
    refine ex_val _ (idx_bT rfl hx) ?_
    refine If.mk (fun h6 => ?_) (fun h6 => ?_)
    ·refine ifY ?_
     have e : x = c := UInt8.toNat_inj.1 (Int.ofNat_inj.1 h6)
     have hc : cutR c l (i + 1) = ((cutR c l i).1 ++ [(l.take i).drop (cutR c l i).2], i + 1) := by
      rw [cutR, if_pos (by rw [hx, e])]
     refine Ex.mk _ (aop_slice (a := sA (bT l)) (l := some (cutR c l i).2) (h := some i) rfl rfl (nat_of rfl) (nat_of rfl) rfl rfl (slice_bT h1 hi)) ?_
     refine ex_app _ _ (app_strG (by omega) rfl) ?_
     refine Side.mk (fits64 (by omega)) ?_
     refine Side.mk (fits64 (by omega)) ?_
     refine ⟨leb rfl, rfl, by omega, trivial, ⟨wp rfl trivial, wp rfl trivial, ⟨_, rfl, Weak.of_eq (?_), ⟨under_strs _ _, ltb rfl⟩⟩, ⟨_, rfl, Weak.of_eq (congrArg (fun q : List (List UInt8) × Nat => n' ((q.2 : Nat) : Int)) hc.symm), trivial⟩, wp rfl trivial, trivial⟩, ⟨⟨by rw [hc, List.length_append]; rfl, ltb rfl⟩, trivial⟩, ⟨_, rfl, trivial⟩, trivial⟩
     rw [hc, List.length_append, List.map_append, List.map_append]
     rfl
    ·refine ifN ?_
     have hc : cutR c l (i + 1) = cutR c l i := by
      rw [cutR, if_neg]
      intro e
      rw [hx] at e
      cases e
      exact h6 rfl
     refine Side.mk (fits64 (by omega)) ?_
     exact ⟨leb rfl, rfl, by omega, trivial, ⟨wp rfl trivial, wp rfl trivial, ⟨_, rfl, Weak.of_eq (by rw [hc]), ⟨under_strs _ _, ltb rfl⟩⟩, ⟨_, rfl, Weak.of_eq (by rw [hc]), trivial⟩, wp rfl trivial, trivial⟩, ⟨⟨by rw [hc]; rfl, ltb rfl⟩, trivial⟩, trivial⟩
   ·refine ifN ?_
    obtain rfl : i = l.length := by omega
    refine ⟨leb rfl, ?_⟩
    refine Ex.mk _ (aop_slice (a := sA (bT l)) (l := some (cutR c l l.length).2) (h := none) rfl rfl (nat_of rfl) rfl rfl rfl (slice_bT2 h1)) ?_
    refine ex_app _ _ (app_strG (by omega) rfl) ?_
    refine ⟨.inl rfl, FinG.mk _ rfl rfl ?_⟩
    rw [cutR_end (c := c) (l := l)]
    generalize (cutR c l l.length).1 = P
    generalize l.drop (cutR c l l.length).2 = q
    have e : (P.map bT).map sA ++ [sA (bT q)] = ((P ++ [q]).map bT).map sA := by
     rw [List.map_append, List.map_append]
     rfl
    show AV.sl (P.length + 1) (AV.freezes _ ((P.map bT).map sA ++ [sA (bT q)])) .unk = _
    rw [e, freezes_map (fun _ => rfl)]
    unfold eStrs
    rw [List.length_map, List.length_append]
    rfl
end Go.Vm

namespace Go.Vm
open Go.Proofs Go.RowKit
def decN (n : Nat) : List UInt8 := Lib.decDigits n
theorem decN_lt {n : Nat} (h : n < 10) : decN n = [UInt8.ofNat (48 + n)] := by
 unfold decN Lib.decDigits; rw [dif_pos h]
theorem decN_ge {n : Nat} (h : 10 ≤ n) : decN n = decN (n / 10) ++ [UInt8.ofNat (48 + n % 10)] := by
 unfold decN; rw [Lib.decDigits, dif_neg (by omega)]
theorem decN_len : ∀ (k n : Nat), n < 10 ^ (k + 1) → (decN n).length ≤ k + 1 ∧ 0 < (decN n).length
 | k, n, h => by
  by_cases h1 : n < 10
  ·rw [decN_lt h1]; simp
  ·cases k with
   | zero => omega
   | succ k =>
    have ih := decN_len k (n / 10) (by rw [Nat.pow_succ] at h; omega)
    rw [decN_ge (by omega), List.length_append]
    simp only [List.length_singleton]
    omega
theorem tdiv10 (n : Nat) : (n : Int).tdiv 10 = ((n / 10 : Nat) : Int) := (Int.ofNat_tdiv n 10).symm
theorem tmod10 (n : Nat) : (n : Int).tmod 10 = ((n % 10 : Nat) : Int) := (Int.ofNat_tmod n 10).symm
theorem tdiv10M (n : Nat) : (-(n : Int)).tdiv 10 = -((n / 10 : Nat) : Int) := by rw [Int.neg_tdiv, tdiv10]
theorem tmod10M (n : Nat) : (-(n : Int)).tmod 10 = -((n % 10 : Nat) : Int) := by rw [Int.neg_tmod, tmod10]
theorem fitsU8 {n : Int} (h : 0 ≤ n ∧ n < 256) : fitsK .u8 n := by
 unfold fitsK
 simp only [IntKind.wrap, IntKind.bits, IntKind.signed]
 simp
 omega
theorem wrap_u8 {n : Nat} (h : n < 256) : IntKind.u8.wrap (n : Int) = (n : Int) := fitsU8 (n := (n : Int)) (by omega)
theorem wrap_64 {n : Int} (h : -1000000 < n ∧ n < 1000000) : IntKind.i64.wrap n = n := fits64 (n := n) (by omega)
theorem bT_app (a b : List UInt8) : bT a ++ bT b = bT (a ++ b) := by
 apply bytes_ext
 show ((⟨a.toArray⟩ : ByteArray) ++ (⟨b.toArray⟩ : ByteArray)).data.toList = _
 rw [ByteArray.data_append]
 show (a.toArray ++ b.toArray).toList = a ++ b
 simp
set_option maxRecDepth 100000 in
theorem c_dec1 {n : Nat} (hn : n < 10) (H : List Blk) : ACall Tryz.prog 78 [n' (n : Nat)] H (.ret (sA (bT (decN n)))) H := by
 refine fn_rule (m := false) (fn := Tryz.f78) (c := (Tryz.f78.body).getD .skip) mixed (by kernel_rfl) (by kernel_rfl) (of_decide_eq_true (by kernel_rfl)) ?_ ?_ ?_ H
 ·exact ⟨trivial, trivial⟩
 ·trivial
 ·refine If.mk (fun _ => ?_) (fun h => absurd (by omega) h)
  refine If.mk (fun h => absurd h (by omega)) (fun _ => ?_)
  refine ifN ?_
  refine If.mk (fun h => absurd h (by omega)) (fun _ => ?_)
  refine ifN ?_
  refine If.mk (fun _ => ?_) (fun h => absurd (by omega) h)
  refine ifY ?_
  refine Side.mk (fits64 (by omega)) ?_
  refine ⟨.inl rfl, FinG.mk _ rfl rfl ?_⟩
  show sA (bT [UInt8.ofNat (IntKind.u8.wrap (48 + (n : Int))).toNat]) = _
  rw [show (48 + (n : Int)) = ((48 + n : Nat) : Int) by omega, wrap_u8 (by omega), Int.toNat_natCast, decN_lt hn]
set_option maxRecDepth 100000 in
theorem c_dec2 {n : Nat} (hn : 10 ≤ n) (h9 : n < 10000) (ih : ∀ H, ACall Tryz.prog 78 [n' ((n / 10 : Nat))] H (.ret (sA (bT (decN (n / 10))))) H) (H : List Blk) : ACall Tryz.prog 78 [n' (n : Nat)] H (.ret (sA (bT (decN n)))) H := by
 refine fn_rule (m := false) (fn := Tryz.f78) (c := (Tryz.f78.body).getD .skip) mixed (by kernel_rfl) (by kernel_rfl) (of_decide_eq_true (by kernel_rfl)) ?_ ?_ ?_ H
 ·exact ⟨trivial, trivial⟩
 ·trivial
 ·refine If.mk (fun _ => ?_) (fun h => absurd (by omega) h)
  refine If.mk (fun h => absurd h (by omega)) (fun _ => ?_)
  refine ifN ?_
  refine If.mk (fun h => absurd h (by omega)) (fun _ => ?_)
  refine ifN ?_
  refine If.mk (fun h => absurd h (by omega)) (fun _ => ?_)
  refine ifN ?_
  have e : IntKind.i64.wrap ((n : Int).tdiv 10) = ((n / 10 : Nat) : Int) := by
   rw [tdiv10]
   exact wrap_64 (by omega)
  refine CallG.pure _ (show ∀ H, ACall Tryz.prog 78 [.lit (.int .i64 (IntKind.i64.wrap ((n : Int).tdiv 10)))] H (.ret (sA (bT (decN (n / 10))))) H by rw [e]; exact ih) ?_
  have hm := tmod10 n
  have hl := decN_len 3 (n / 10) (by omega)
  refine Side.mk (fits64 (by omega)) ?_
  refine now_of (bin_add (a := bT (decN (n / 10))) (by rw [bT_size]; show _ + 1 ≤ _; omega)) ?_
  refine ⟨.inl rfl, FinG.mk _ rfl rfl ?_⟩
  show sA (bT (decN (n / 10)) ++ bT [UInt8.ofNat (IntKind.u8.wrap (48 + (n : Int).tmod 10)).toNat]) = _
  rw [hm, show (48 + ((n % 10 : Nat) : Int)) = ((48 + n % 10 : Nat) : Int) by omega, wrap_u8 (by omega), Int.toNat_natCast, bT_app, ← decN_ge hn]
theorem c_dec : ∀ (n : Nat), n < 10000 → ∀ H, ACall Tryz.prog 78 [n' (n : Nat)] H (.ret (sA (bT (decN n)))) H
 | n, h, H => by
  by_cases h1 : n < 10
  ·exact c_dec1 h1 H
  ·exact c_dec2 (by omega) h (fun H => c_dec (n / 10) (by omega) H) H
def decNM (n : Nat) : List UInt8 := if n = 0 then [48] else 45 :: decN n
theorem decNM_pos {n : Nat} (h : 0 < n) : decNM n = 45 :: decN n := if_neg (by omega)
set_option maxRecDepth 100000 in
theorem c_decM1 {n : Nat} (h0 : 0 < n) (hn : n < 10) (H : List Blk) : ACall Tryz.prog 78 [n' (-(n : Int))] H (.ret (sA (bT (decNM n)))) H := by
 refine fn_rule (m := false) (fn := Tryz.f78) (c := (Tryz.f78.body).getD .skip) mixed (by kernel_rfl) (by kernel_rfl) (of_decide_eq_true (by kernel_rfl)) ?_ ?_ ?_ H
 ·exact ⟨trivial, trivial⟩
 ·trivial
 ·refine If.mk (fun _ => ?_) (fun h => absurd (by omega) h)
  refine If.mk (fun _ => ?_) (fun h => absurd (by omega) h)
  refine ifY ?_
  refine Side.mk (fits64 (by omega)) ?_
  refine ⟨.inl rfl, FinG.mk _ rfl rfl ?_⟩
  show sA (bT [45] ++ bT [UInt8.ofNat (IntKind.u8.wrap (48 - -(n : Int))).toNat]) = _
  rw [show (48 - -(n : Int)) = ((48 + n : Nat) : Int) by omega, wrap_u8 (by omega), Int.toNat_natCast, bT_app, decNM_pos h0, decN_lt hn]; rfl
set_option maxRecDepth 100000 in
theorem c_decM2 {n : Nat} (hn : 10 ≤ n) (h9 : n < 10000) (ih : ∀ H, ACall Tryz.prog 78 [n' (-((n / 10 : Nat) : Int))] H (.ret (sA (bT (decNM (n / 10))))) H) (H : List Blk) : ACall Tryz.prog 78 [n' (-(n : Int))] H (.ret (sA (bT (decNM n)))) H := by
 refine fn_rule (m := false) (fn := Tryz.f78) (c := (Tryz.f78.body).getD .skip) mixed (by kernel_rfl) (by kernel_rfl) (of_decide_eq_true (by kernel_rfl)) ?_ ?_ ?_ H
 ·exact ⟨trivial, trivial⟩
 ·trivial
 ·refine If.mk (fun h => absurd h (by omega)) (fun _ => ?_)
  refine ifN ?_
  refine If.mk (fun _ => ?_) (fun h => absurd (by omega) h)
  refine ifY ?_
  have e : IntKind.i64.wrap ((-(n : Int)).tdiv 10) = -((n / 10 : Nat) : Int) := by
   rw [tdiv10M]
   exact wrap_64 (by omega)
  refine CallG.pure _ (show ∀ H, ACall Tryz.prog 78 [.lit (.int .i64 (IntKind.i64.wrap ((-(n : Int)).tdiv 10)))] H (.ret (sA (bT (decNM (n / 10))))) H by rw [e]; exact ih) ?_
  have hm := tmod10M n
  have hl := decN_len 3 (n / 10) (by omega)
  have hp := decNM_pos (n := n / 10) (by omega)
  refine Side.mk (fits64 (by omega)) ?_
  refine now_of (bin_add (a := bT (decNM (n / 10))) (by rw [bT_size, hp, List.length_cons]; show _ + 1 ≤ _; omega)) ?_
  refine ⟨.inl rfl, FinG.mk _ rfl rfl ?_⟩
  show sA (bT (decNM (n / 10)) ++ bT [UInt8.ofNat (IntKind.u8.wrap (48 - (-(n : Int)).tmod 10)).toNat]) = _
  rw [hm, show (48 - -((n % 10 : Nat) : Int)) = ((48 + n % 10 : Nat) : Int) by omega, wrap_u8 (by omega), Int.toNat_natCast, bT_app, hp, decNM_pos (n := n) (by omega), decN_ge hn]; rfl
theorem c_decM : ∀ (n : Nat), n < 10000 → ∀ H, ACall Tryz.prog 78 [n' (-(n : Int))] H (.ret (sA (bT (decNM n)))) H
 | n, h, H => by
  by_cases h0 : n = 0
  ·subst h0
   have h := c_dec1 (n := 0) (by omega) H
   rw [decN_lt (by omega)] at h
   exact h
  ·by_cases h1 : n < 10
   ·exact c_decM1 (by omega) h1 H
   ·exact c_decM2 (by omega) h (fun H => c_decM (n / 10) (by omega) H) H
theorem below_grow {w : World} {k : Nat} {os : Array Obj} : Below w.heap.size w (Go.Sort.grow (w.drewN k) os) :=
 ⟨rfl, rfl, rfl, by simp [Go.Sort.grow], fun b hb => by
  show (w.heap ++ os)[b]? = _
  rw [Array.getElem?_append_left hb]⟩
theorem c_itoa {n : Int} (h0 : -9223372036854775808 ≤ n) (h1 : n ≤ 9223372036854775807) (H : List Blk) : ACall Tryz.prog 111 [n' n] H (.ret (sA (bT (Lib.itoa n)))) H := by
 refine ACall.of_below fun O ι w cs hR hargs => ?_
 obtain ⟨l⟩ := cs
 match l, hargs with
 | [c1], hargs =>
  simp only [VRels, and_true] at hargs
  subst hargs
  have ht : Lib.TabIs Tryz.prog w "internal/strconv.uint64pow10" .u64 Lib.pow10Tab := by
   obtain ⟨_, t, f, hw⟩ := hR.tab 1 _ rfl
   have hg : Tryz.prog.globalNamed "internal/strconv.uint64pow10" = some 1 := by kernel_rfl
   unfold Lib.TabIs World.var?
   have hw' : w.heap[1]? = some (.cells _ t f) := hw
   rw [hg, Option.bind_some, hw']
   exact congrArg some (by kernel_rfl)
  refine (Tryz.strconv_Itoa n h0 h1 w ht).mono ?_
  rintro e w' ⟨rfl, k, os, rfl⟩
  exact ⟨rfl, below_grow⟩
 | [], hargs => simp [VRels] at hargs
 | _ :: _ :: _, hargs => simp [VRels] at hargs
theorem c_itoaN {n : Nat} (h : n < 100000) (H : List Blk) : ACall Tryz.prog 111 [n' (n : Nat)] H (.ret (sA (bT (decN n)))) H := by
 have hc := c_itoa (n := (n : Int)) (by omega) (by omega) H
 have e : Lib.itoa (n : Int) = decN n := by
  unfold Lib.itoa
  rw [if_neg (by omega), Int.toNat_natCast]; rfl
 rw [e] at hc
 exact hc
end Go.Vm

namespace Go.Vm
open Go.Proofs Go.RowKit
theorem t_ne_f : ¬ (true = false) := by decide
theorem f_ne_t : ¬ (false = true) := by decide
abbrev EntryD := Int × List Int
def cEntry (x : EntryD) : List AV := [n' x.1, eInts x.2]
def eEntry (x : EntryD) : AV := .agg (cEntry x)
theorem under_eEntry (n : Nat) (x : EntryD) : (eEntry x).under n := ⟨trivial, under_eInts n _, trivial⟩
def manyI (k : Int) : Option (Int × Int) :=
 if k = 1 ∨ k = 2 ∨ k = 4 ∨ k = 6 ∨ k = 7 then some (1, 1) else if k = 3 then some (2, 2) else if k = 8 then some (2, 7) else if k = 9 then some (0, 6) else if k = 5 ∨ k = 10 ∨ k = 11 then some (0, 0) else none
def numOk (l : List Int) : Prop := ∀ n ∈ l, 0 ≤ n ∧ n ≤ 1000
instance (l : List Int) : Decidable (numOk l) := by unfold numOk; infer_instance
def formedI (x : EntryD) : Prop := (∃ p, manyI x.1 = some p ∧ p.1 ≤ (x.2.length : Int) ∧ (x.2.length : Int) ≤ p.2) ∧ numOk x.2
instance (x : EntryD) : Decidable (formedI x) := by
 unfold formedI
 cases h : manyI x.1 with
 | none => exact isFalse fun ⟨⟨p, e, _⟩, _⟩ => by cases e
 | some p => exact decidable_of_iff ((p.1 ≤ (x.2.length : Int) ∧ (x.2.length : Int) ≤ p.2) ∧ numOk x.2) ⟨fun h => ⟨⟨p, rfl, h.1⟩, h.2⟩, fun ⟨⟨q, e, h1⟩, h2⟩ => by cases e; exact ⟨h1, h2⟩⟩
def wordsB : List (List UInt8) := [[119, 97, 105, 116], [98, 101, 103, 105, 110], [99, 117, 101], [107, 110, 111, 99, 107], [114, 101, 115, 116], [112, 108, 97, 121], [108, 101, 110, 100], [98, 97, 99, 107], [112, 97, 99, 107], [117, 110, 112, 97, 99, 107], [117, 110, 100, 111], [110, 105, 103, 104, 116], [112, 114, 111, 103, 114, 97, 109, 109, 101], [101, 110, 100, 115], [114, 101, 109, 97, 105, 110, 115], [97, 115, 107], [110, 101, 118, 101, 114], [104, 111, 109, 101], [112, 108, 97, 121, 101, 100], [99, 97, 110], [102, 105, 114, 115, 116], [111, 117, 116], [98, 101, 115, 116], [115, 116, 97, 110, 100, 115]]
set_option maxRecDepth 100000 in
theorem c_in65 (a b c : Int) (H : List Blk) : ACall Tryz.prog 65 [n' a, n' b, n' c] H (.ret (.lit (.bool (decide (b ≤ a ∧ a ≤ c))))) H := by
 refine fn_rule (m := false) (fn := Tryz.f65) (c := (Tryz.f65.body).getD .skip) mixed (by kernel_rfl) (by kernel_rfl) (of_decide_eq_true (by kernel_rfl)) ?_ ?_ ?_ H
 ·exact ⟨trivial, trivial, trivial, trivial⟩
 ·trivial
 ·refine If.mk (fun h1 => ?_) (fun h1 => ?_)
  ·refine If.mk (fun h2 => ?_) (fun h2 => ?_)
   ·exact ⟨.inl rfl, FinG.yes rfl rfl (⟨h1, h2⟩)⟩
   ·exact ⟨.inl rfl, FinG.no rfl rfl (fun h => h2 h.2)⟩
  ·exact ⟨.inl rfl, FinG.no rfl rfl (fun h => h1 h.1)⟩
set_option maxRecDepth 100000 in
theorem c_in29 (a b c : Int) (H : List Blk) : ACall Tryz.prog 29 [n' a, n' b, n' c] H (.ret (.lit (.bool (decide (b ≤ a ∧ a ≤ c))))) H := by
 refine fn_rule (m := false) (fn := Tryz.f29) (c := (Tryz.f29.body).getD .skip) mixed (by kernel_rfl) (by kernel_rfl) (of_decide_eq_true (by kernel_rfl)) ?_ ?_ ?_ H
 ·exact ⟨trivial, trivial, trivial, trivial⟩
 ·trivial
 ·refine If.mk (fun h1 => ?_) (fun h1 => ?_)
  ·refine If.mk (fun h2 => ?_) (fun h2 => ?_)
   ·exact ⟨.inl rfl, FinG.yes rfl rfl (⟨h1, h2⟩)⟩
   ·exact ⟨.inl rfl, FinG.no rfl rfl (fun h => h2 h.2)⟩
  ·exact ⟨.inl rfl, FinG.no rfl rfl (fun h => h1 h.1)⟩
set_option maxRecDepth 100000 in
theorem c_words24 (H : List Blk) : ACall Tryz.prog 62 [] H (.ret (.agg (wordsB.map fun w => sA (bT w)))) H := by
 refine fn_rule (m := false) (fn := Tryz.f62) (c := (Tryz.f62.body).getD .skip) mixed (by kernel_rfl) (by kernel_rfl) (of_decide_eq_true (by kernel_rfl)) ?_ ?_ ?_ H
 ·exact trivial
 ·exact ⟨trivial, trivial, trivial, trivial, trivial, trivial, trivial, trivial, trivial, trivial, trivial, trivial, trivial, trivial, trivial, trivial, trivial, trivial, trivial, trivial, trivial, trivial, trivial, trivial, trivial⟩
 ·exact ⟨.inl rfl, FinG.mk _ rfl rfl rfl⟩
def manyV (k : Int) : AV := match manyI k with
 | some p => .tup [.agg [n' p.1, n' p.2], .lit (.bool true)]
 | none => .tup [.agg [n' 0, n' 0], .lit (.bool false)]
theorem under_manyV (n : Nat) (k : Int) : (manyV k).under n := by
 unfold manyV
 cases manyI k <;> exact ⟨⟨trivial, trivial, trivial⟩, trivial, trivial⟩
set_option maxRecDepth 100000 in
theorem c_many64 (k : Int) (H : List Blk) : ACall Tryz.prog 64 [n' k] H (.ret (manyV k)) H := by
 refine fn_rule (m := false) (fn := Tryz.f64) (c := (Tryz.f64.body).getD .skip) mixed (by kernel_rfl) (by kernel_rfl) (of_decide_eq_true (by kernel_rfl)) ?_ ?_ ?_ H
 ·exact ⟨trivial, trivial⟩
 ·exact under_manyV _ _
 ·refine If.mk (fun h => ?_) (fun h1 => ?_)
  ·subst h
   repeat (first | refine IfB.mk (fun _ => ?_) (fun e => absurd e t_ne_f) | refine IfB.mk (fun e => absurd e f_ne_t) (fun _ => ?_) | refine If.mk (fun _ => ?_) (fun h => absurd (of_decide_eq_true rfl) h) | refine If.mk (fun h => absurd h (of_decide_eq_true rfl)) (fun _ => ?_) | refine Ex.mk _ rfl ?_)
   exact ⟨.inl rfl, FinG.mk _ rfl rfl rfl⟩
  refine ifN ?_
  refine If.mk (fun h => ?_) (fun h2 => ?_)
  ·subst h
   repeat (first | refine IfB.mk (fun _ => ?_) (fun e => absurd e t_ne_f) | refine IfB.mk (fun e => absurd e f_ne_t) (fun _ => ?_) | refine If.mk (fun _ => ?_) (fun h => absurd (of_decide_eq_true rfl) h) | refine If.mk (fun h => absurd h (of_decide_eq_true rfl)) (fun _ => ?_) | refine Ex.mk _ rfl ?_)
   exact ⟨.inl rfl, FinG.mk _ rfl rfl rfl⟩
  refine ifN ?_
  refine If.mk (fun h => ?_) (fun h4 => ?_)
  ·subst h
   repeat (first | refine IfB.mk (fun _ => ?_) (fun e => absurd e t_ne_f) | refine IfB.mk (fun e => absurd e f_ne_t) (fun _ => ?_) | refine If.mk (fun _ => ?_) (fun h => absurd (of_decide_eq_true rfl) h) | refine If.mk (fun h => absurd h (of_decide_eq_true rfl)) (fun _ => ?_) | refine Ex.mk _ rfl ?_)
   exact ⟨.inl rfl, FinG.mk _ rfl rfl rfl⟩
  refine ifN ?_
  refine If.mk (fun h => ?_) (fun h6 => ?_)
  ·subst h
   repeat (first | refine IfB.mk (fun _ => ?_) (fun e => absurd e t_ne_f) | refine IfB.mk (fun e => absurd e f_ne_t) (fun _ => ?_) | refine If.mk (fun _ => ?_) (fun h => absurd (of_decide_eq_true rfl) h) | refine If.mk (fun h => absurd h (of_decide_eq_true rfl)) (fun _ => ?_) | refine Ex.mk _ rfl ?_)
   exact ⟨.inl rfl, FinG.mk _ rfl rfl rfl⟩
  refine ifN ?_
  refine If.mk (fun h => ?_) (fun h7 => ?_)
  ·subst h
   repeat (first | refine IfB.mk (fun _ => ?_) (fun e => absurd e t_ne_f) | refine IfB.mk (fun e => absurd e f_ne_t) (fun _ => ?_) | refine If.mk (fun _ => ?_) (fun h => absurd (of_decide_eq_true rfl) h) | refine If.mk (fun h => absurd h (of_decide_eq_true rfl)) (fun _ => ?_) | refine Ex.mk _ rfl ?_)
   exact ⟨.inl rfl, FinG.mk _ rfl rfl rfl⟩
  refine ifN ?_
  refine If.mk (fun h => ?_) (fun h3 => ?_)
  ·subst h
   repeat (first | refine IfB.mk (fun _ => ?_) (fun e => absurd e t_ne_f) | refine IfB.mk (fun e => absurd e f_ne_t) (fun _ => ?_) | refine If.mk (fun _ => ?_) (fun h => absurd (of_decide_eq_true rfl) h) | refine If.mk (fun h => absurd h (of_decide_eq_true rfl)) (fun _ => ?_) | refine Ex.mk _ rfl ?_)
   exact ⟨.inl rfl, FinG.mk _ rfl rfl rfl⟩
  refine ifN ?_
  refine If.mk (fun h => ?_) (fun h8 => ?_)
  ·subst h
   repeat (first | refine IfB.mk (fun _ => ?_) (fun e => absurd e t_ne_f) | refine IfB.mk (fun e => absurd e f_ne_t) (fun _ => ?_) | refine If.mk (fun _ => ?_) (fun h => absurd (of_decide_eq_true rfl) h) | refine If.mk (fun h => absurd h (of_decide_eq_true rfl)) (fun _ => ?_) | refine Ex.mk _ rfl ?_)
   exact ⟨.inl rfl, FinG.mk _ rfl rfl rfl⟩
  refine ifN ?_
  refine If.mk (fun h => ?_) (fun h9 => ?_)
  ·subst h
   repeat (first | refine IfB.mk (fun _ => ?_) (fun e => absurd e t_ne_f) | refine IfB.mk (fun e => absurd e f_ne_t) (fun _ => ?_) | refine If.mk (fun _ => ?_) (fun h => absurd (of_decide_eq_true rfl) h) | refine If.mk (fun h => absurd h (of_decide_eq_true rfl)) (fun _ => ?_) | refine Ex.mk _ rfl ?_)
   exact ⟨.inl rfl, FinG.mk _ rfl rfl rfl⟩
  refine ifN ?_
  refine If.mk (fun h => ?_) (fun h5 => ?_)
  ·subst h
   repeat (first | refine IfB.mk (fun _ => ?_) (fun e => absurd e t_ne_f) | refine IfB.mk (fun e => absurd e f_ne_t) (fun _ => ?_) | refine If.mk (fun _ => ?_) (fun h => absurd (of_decide_eq_true rfl) h) | refine If.mk (fun h => absurd h (of_decide_eq_true rfl)) (fun _ => ?_) | refine Ex.mk _ rfl ?_)
   exact ⟨.inl rfl, FinG.mk _ rfl rfl rfl⟩
  refine ifN ?_
  refine If.mk (fun h => ?_) (fun h10 => ?_)
  ·subst h
   repeat (first | refine IfB.mk (fun _ => ?_) (fun e => absurd e t_ne_f) | refine IfB.mk (fun e => absurd e f_ne_t) (fun _ => ?_) | refine If.mk (fun _ => ?_) (fun h => absurd (of_decide_eq_true rfl) h) | refine If.mk (fun h => absurd h (of_decide_eq_true rfl)) (fun _ => ?_) | refine Ex.mk _ rfl ?_)
   exact ⟨.inl rfl, FinG.mk _ rfl rfl rfl⟩
  refine ifN ?_
  refine If.mk (fun h => ?_) (fun h11 => ?_)
  ·subst h
   repeat (first | refine IfB.mk (fun _ => ?_) (fun e => absurd e t_ne_f) | refine IfB.mk (fun e => absurd e f_ne_t) (fun _ => ?_) | refine If.mk (fun _ => ?_) (fun h => absurd (of_decide_eq_true rfl) h) | refine If.mk (fun h => absurd h (of_decide_eq_true rfl)) (fun _ => ?_) | refine Ex.mk _ rfl ?_)
   exact ⟨.inl rfl, FinG.mk _ rfl rfl rfl⟩
  refine ifN ?_
  refine ⟨.inl rfl, FinG.mk _ rfl rfl ?_⟩
  show AV.tup [.agg [n' 0, n' 0], .lit (.bool false)] = manyV k
  unfold manyV manyI
  simp [h1, h2, h3, h4, h5, h6, h7, h8, h9, h10, h11]
set_option maxRecDepth 100000 in
theorem c_bad67 (a : Int) (H : List Blk) : ACall Tryz.prog 67 [n' a] H (.ret (.lit (.bool (decide (¬ (0 ≤ a ∧ a ≤ 1000)))))) H := by
 refine fn_rule (m := false) (fn := Tryz.f67) (c := (Tryz.f67.body).getD .skip) mixed (by kernel_rfl) (by kernel_rfl) (of_decide_eq_true (by kernel_rfl)) ?_ ?_ ?_ H
 ·exact ⟨trivial, trivial⟩
 ·trivial
 ·refine CallG.bool (c_in65 a 0 1000) (fun h => ?_) (fun h => ?_)
  ·exact ⟨.inl rfl, FinG.no rfl rfl (fun x => x h)⟩
  ·exact ⟨.inl rfl, FinG.yes rfl rfl (h)⟩
abbrev badC : AV := .lit (.func (.func 67) #[] #[])
set_option maxRecDepth 100000 in
theorem c_index113 (l : List Int) (hl : l.length < 4611686018427387904) (H : List Blk) : ACall Tryz.prog 113 [eInts l, badC] H (.ret (n' (idxOf (fun n => ¬ (0 ≤ n ∧ n ≤ 1000)) l))) H := by
 refine fn_rule (m := false) (fn := Tryz.f113) (c := (Tryz.f113.body).getD .skip) mixed (by kernel_rfl) (by kernel_rfl) (of_decide_eq_true (by kernel_rfl)) ?_ ?_ ?_ H
 ·exact ⟨under_eInts 0 _, trivial, trivial⟩
 ·trivial
 ·refine LoopG.at (n0 := 0) rfl (loop_up mixed (m := false) (fun r => [(0, eInts l), (1, badC), (7, n' (l.length : Nat)), (8, n' r)]) (fun _ => []) (fun r => ∀ y ∈ l.take r, ¬ ¬ (0 ≤ y ∧ y ≤ 1000)) l.length 0 (Nat.zero_le _) (fun _ h => by simp at h) ?_ trivial ?_)
  ·exact ⟨⟨_, rfl, Weak.refl _ _, under_eInts _ _⟩, wp rfl trivial, wp rfl trivial, wp rfl trivial, trivial⟩
  ·intro r hr hI
   refine If.mk (fun h1 => ?_) (fun h1 => ?_)
   ·refine ifY ?_
    have hrl : r < l.length := by omega
    refine Ex.mk _ (jx_ints (r := r) rfl (List.getElem?_eq_getElem hrl)) ?_
    refine Ex.mk _ rfl ?_
    refine CallG.bool (c_bad67 l[r]) (fun h => ?_) (fun h => ?_)
    ·refine ifY ?_
     refine ⟨Nat.zero_le _, .inl rfl, FinG.mk _ rfl rfl ?_⟩
     rw [idx_hit hrl hI h]; rfl
    ·refine ifN ?_
     refine Side.mk (fits64 (by omega)) ?_
     exact ⟨Nat.zero_le _, rfl, by omega, all_snoc (p := fun y => ¬ ¬ (0 ≤ y ∧ y ≤ 1000)) hrl hI h, ⟨⟨_, rfl, Weak.refl _ _, under_eInts _ _⟩, wp rfl trivial, wp rfl trivial, wp rfl trivial, trivial⟩, trivial, trivial⟩
   ·refine ifN ?_
    have er : r = l.length := by omega
    subst er
    rw [List.take_length] at hI
    refine ⟨Nat.zero_le _, .inl rfl, FinG.mk _ rfl rfl ?_⟩
    rw [idx_miss hI]; rfl
theorem numOk_idx {l : List Int} : 0 ≤ idxOf (fun n => ¬ (0 ≤ n ∧ n ≤ 1000)) l ↔ ¬ numOk l := by
 rw [idx_nonneg]
 unfold numOk
 constructor
 ·rintro ⟨x, hx, h⟩ hn
  exact h (hn x hx)
 ·intro h
  apply Classical.byContradiction
  intro h2
  exact h fun x hx => Classical.byContradiction fun h3 => h2 ⟨x, hx, h3⟩
set_option maxRecDepth 100000 in
theorem c_contains66 (l : List Int) (hl : l.length < 4611686018427387904) (H : List Blk) : ACall Tryz.prog 66 [eInts l, badC] H (.ret (.lit (.bool (decide (¬ numOk l))))) H := by
 refine fn_rule (m := false) (fn := Tryz.f66) (c := (Tryz.f66.body).getD .skip) mixed (by kernel_rfl) (by kernel_rfl) (of_decide_eq_true (by kernel_rfl)) ?_ ?_ ?_ H
 ·exact ⟨under_eInts 0 _, trivial, trivial⟩
 ·trivial
 ·refine CallG.pure _ (c_index113 l hl) ?_
  refine If.mk (fun h => ?_) (fun h => ?_)
  ·exact ⟨.inl rfl, FinG.yes rfl rfl (numOk_idx.1 h)⟩
  ·exact ⟨.inl rfl, FinG.no rfl rfl (fun h2 => h (numOk_idx.2 h2))⟩
set_option maxRecDepth 100000 in
theorem c_isFormed (x : EntryD) (hl : x.2.length < 4611686018427387904) (H : List Blk) : ACall Tryz.prog 24 [eEntry x] H (.ret (.lit (.bool (decide (formedI x))))) H := by
 refine fn_rule (m := false) (fn := Tryz.f24) (c := (Tryz.f24.body).getD .skip) mixed (by kernel_rfl) (by kernel_rfl) (of_decide_eq_true (by kernel_rfl)) ?_ ?_ ?_ H
 ·exact ⟨under_eEntry _ _, trivial⟩
 ·trivial
 ·cases hm : manyI x.1 with
  | none =>
   have hc := c_many64 x.1
   unfold manyV at hc
   rw [hm] at hc
   refine CallG.pure _ (hc) ?_
   exact ⟨.inl rfl, FinG.no rfl rfl (fun ⟨⟨p, e, _⟩, _⟩ => by rw [hm] at e; cases e)⟩
  | some p =>
   have hc := c_many64 x.1
   unfold manyV at hc
   rw [hm] at hc
   refine CallG.pure _ (hc) ?_
   refine CallG.bool (c_in65 (x.2.length : Nat) p.1 p.2) (fun h1 => ?_) (fun h1 => ?_)
   ·refine CallG.bool (c_contains66 x.2 hl) (fun h2 => ?_) (fun h2 => ?_)
    ·exact ⟨.inl rfl, FinG.no rfl rfl (fun h => h2 h.2)⟩
    ·exact ⟨.inl rfl, FinG.yes rfl rfl (⟨⟨p, hm, h1⟩, Classical.byContradiction h2⟩)⟩
   ·exact ⟨.inl rfl, FinG.no rfl rfl (fun ⟨⟨q, e, h⟩, _⟩ => by rw [hm] at e; cases e; exact h1 h)⟩
end Go.Vm

namespace Go.Vm
open Go.Proofs Go.RowKit
def decsB (l : List Int) : List (List UInt8) := l.map fun n => decN n.toNat
def joinB (l : List Int) : List UInt8 := Lib.join (decsB l) [32]
def strsA (R : Nat) (l : List Int) : AV := .sl l.length ((decsB l).map fun w => sA (bT w)) (.own R l.length 1)
theorem under_strsD (n : Nat) (l : List Int) : AV.unders n ((decsB l).map fun w => sA (bT w)) := unders_map (f := fun w => sA (bT w)) (fun _ => trivial) _
theorem under_strsA {n R : Nat} (l : List Int) (h : R < n) : (strsA R l).under n := ⟨under_strsD n l, h⟩
theorem decsB_len (l : List Int) : (decsB l).length = l.length := List.length_map _
theorem strsA_snoc (R : Nat) (l : List Int) (n : Int) : AV.sl (l.length + 1) ((decsB l).map (fun w => sA (bT w)) ++ [sA (bT (decN n.toNat))]) (.own R (l.length + 1) 1) = strsA R (l ++ [n]) := by
 unfold strsA decsB; rw [List.length_append, List.map_append, List.map_append]; rfl
theorem app_strD {g : Nat → Option Blk} {n len id gen : Nat} {cells : List AV} {s : ByteArray} (h1 : cells.length = len) (h2 : len < 2097152) (hg : g id = some (.row gen)) :
  appT Tryz.prog false g n 93 93 (.sl len cells (.own id gen 1)) (.sl 1 [sA s] .full) = some (.sl (len + 1) (cells ++ [sA s]) (.own id (gen + 1) 1), .set id (.row (gen + 1))) :=
 appT_own (e := 9) (bytes := 16) (z := .string ⟨#[]⟩) (by kernel_rfl) (by kernel_rfl) (by kernel_rfl) (by kernel_rfl) (by kernel_rfl) rfl (by omega) (by omega) (by omega) hg rfl
theorem numOk_dec {l : List Int} (h : numOk l) {n : Int} (hn : n ∈ l) : ∃ k : Nat, n = (k : Int) ∧ k ≤ 1000 := ⟨n.toNat, by have := h n hn; omega, by have := h n hn; omega⟩
theorem flat_le : ∀ (ls : List (List UInt8)) (b : Nat), (∀ x ∈ ls, x.length ≤ b) → (Lib.join ls [32]).length ≤ (b + 1) * ls.length
 | [], b, _ => by rw [Lib.join_nil]; simp
 | [x], b, h => by
  rw [Lib.join_one]
  have := h x (by simp)
  simp; omega
 | x :: y :: ls, b, h => by
  have ih := flat_le (y :: ls) b fun z hz => h z (List.mem_cons_of_mem _ hz)
  have e : Lib.join (x :: y :: ls) [32] = x ++ 32 :: Lib.join (y :: ls) [32] := by
   unfold Lib.join List.intercalate
   rw [List.intersperse_cons_cons]
   simp
  rw [e, List.length_append, List.length_cons, List.length_cons]
  have := h x (by simp)
  rw [Nat.mul_succ]
  omega
theorem joinB_len {l : List Int} (h : numOk l) : (joinB l).length ≤ 5 * l.length := by
 unfold joinB
 have := flat_le (decsB l) 4 fun x hx => by
  obtain ⟨n, hn, rfl⟩ := List.mem_map.1 hx
  have := h n hn
  exact (decN_len 3 n.toNat (by omega)).1
 rw [decsB_len] at this
 exact this
theorem c_joinD {l : List Int} (hn : numOk l) (hl : l.length ≤ 1000) (R : Nat) (H : List Blk) : ACall Tryz.prog 112 [strsA R l, sA ⟨#[32]⟩] H (.ret (sA (bT (joinB l)))) H := by
 have hj := joinB_len hn
 have e0 : ((decsB l).map bT).map (·.data.toList) = decsB l := by
  rw [List.map_map]; exact List.map_id _
 have e1 : joinS ((decsB l).map bT) ⟨#[32]⟩ = bT (joinB l) := by
  unfold joinS
  rw [e0]; rfl
 have h := c_join (xs := (decsB l).map bT) (sep := ⟨#[32]⟩) (.own R l.length 1) (by rw [List.length_map, decsB_len]; omega) (by rw [e1, bT_size]; omega) H
 rw [e1, List.length_map, decsB_len, List.map_map] at h
 exact h
set_option maxRecDepth 100000 in
theorem c_joined63 {l : List Int} (hn : numOk l) (hl : l.length ≤ 1000) (H : List Blk) : ACall Tryz.prog 63 [eInts l] H (.ret (sA (bT (joinB l)))) H := by
 refine fn_rule (m := false) (fn := Tryz.f63) (c := (Tryz.f63.body).getD .skip) mixed (by kernel_rfl) (by kernel_rfl) (of_decide_eq_true (by kernel_rfl)) ?_ ?_ ?_ H
 ·exact ⟨under_eInts _ _, trivial⟩
 ·trivial
 ·refine LoopG.ghost (LoopG.at (n0 := 1) rfl ?_)
  refine loop_up mixed (m := false) (fun r => [(0, eInts l), (3, strsA 0 (l.take r)), (6, eInts l), (7, n' (l.length : Nat)), (8, n' (r : Nat))]) (fun r => [(0, .row (l.take r).length)]) (fun _ => True) l.length 0 (leb rfl) trivial ?_ ?_ ?_
  ·exact ⟨⟨_, rfl, Weak.refl _ _, under_eInts _ _⟩, ⟨_, rfl, Weak.own (r := 0) (g := 0) 1 rfl, under_strsA _ (ltb rfl)⟩, ⟨_, rfl, Weak.refl _ _, under_eInts _ _⟩, wp rfl trivial, wp rfl trivial, trivial⟩
  ·exact ⟨bk rfl rfl, trivial⟩
  ·intro r hr _
   refine If.mk (fun h1 => ?_) (fun h1 => ?_)
   ·refine ifY ?_
    have hr' : r < l.length := by omega
    obtain ⟨n, hx, etk, hm⟩ := at_some (l := l) (r := r) hr'
    obtain ⟨k, rfl, hk⟩ := numOk_dec hn hm
    refine Ex.mk _ (jx_ints (r := r) rfl hx) ?_
    refine Ex.mk _ rfl ?_
    refine CallG.pure _ (c_itoaN (n := k) (by omega)) ?_
    refine ex_app _ _ (app_strD (by rw [List.length_map, decsB_len]) (by rw [List.length_take]; omega) rfl) ?_
    refine Side.mk (fits64 (by omega)) ?_
    refine ⟨leb rfl, rfl, hr', trivial, ⟨⟨_, rfl, Weak.refl _ _, under_eInts _ _⟩, ⟨_, rfl, ?_, under_strsA _ (ltb rfl)⟩, ⟨_, rfl, Weak.refl _ _, under_eInts _ _⟩, wp rfl trivial, ⟨_, rfl, Weak.of_eq (congrArg n' (by omega)), trivial⟩, trivial⟩, ⟨⟨?_, ltb rfl⟩, trivial⟩, ⟨⟨_, rfl, trivial⟩, trivial⟩⟩
    ·rw [etk]; exact Weak.of_eq (strsA_snoc 0 (l.take r) (k : Int))
    ·rw [etk, List.length_append]; rfl
   ·refine ifN ?_
    obtain rfl : r = l.length := by omega
    refine ⟨leb rfl, ?_⟩
    rw [List.take_length]
    refine CallG.pure _ (show ∀ H, ACall Tryz.prog 112 [strsA 0 l, sA ⟨#[32]⟩] H (.ret (sA (bT (joinB l)))) H from c_joinD hn hl 0) ?_
    exact ⟨.inl rfl, FinG.mk _ rfl rfl rfl⟩
theorem slice_tailI (a : Int) (m : List Int) : sliceA Tryz.prog 23 (eInts (a :: m)) (some 1) none none = some (eInts m) := by
 have hu : Tryz.prog.underlying 23 = some (.slice 3) := by kernel_rfl
 have hs : tsz Tryz.prog 3 = some 1 := by kernel_rfl
 unfold sliceA eInts
 simp only [hu, hs, Option.getD_some, Option.getD_none]
 rw [if_pos ⟨by simp, Nat.le_refl _, Nat.le_refl _, by simp, by simp, by omega⟩]
 simp
 exact List.take_of_length_le (by simp)
def actV (x : EntryD) : AV :=
 if x.1 = 1 then .iface 131 (n' (x.2.getD 0 0)) else if x.1 = 2 then .iface 133 (n' (x.2.getD 0 0)) else if x.1 = 3 then .iface 138 (.agg [n' (x.2.getD 0 0), n' (x.2.getD 1 0)]) else if x.1 = 4 then .iface 138 (.agg [n' (x.2.getD 0 0), n' (-1)])
 else if x.1 = 5 then .iface 141 (.agg []) else if x.1 = 6 then .iface 142 (n' (x.2.getD 0 0)) else if x.1 = 7 then .iface 148 (n' (x.2.getD 0 0)) else if x.1 = 8 then .iface 150 (.agg [n' (x.2.getD 0 0), eInts x.2.tail]) else if x.1 = 9 then .iface 155 (eInts x.2) else if x.1 = 10 then .iface 161 (.agg []) else .iface 162 (.agg [])
theorem formed_cases {x : EntryD} (h : formedI x) : numOk x.2 ∧ ((∃ a, x.2 = [a] ∧ (x.1 = 1 ∨ x.1 = 2 ∨ x.1 = 4 ∨ x.1 = 6 ∨ x.1 = 7)) ∨ (∃ a b, x.2 = [a, b] ∧ x.1 = 3) ∨ (∃ a l, x.2 = a :: l ∧ 1 ≤ l.length ∧ l.length ≤ 6 ∧ x.1 = 8) ∨ (x.2.length ≤ 6 ∧ x.1 = 9) ∨ (x.2 = [] ∧ (x.1 = 5 ∨ x.1 = 10 ∨ x.1 = 11))) := by
 obtain ⟨k, l⟩ := x
 obtain ⟨⟨p, hp, h1, h2⟩, h3⟩ := h
 refine ⟨h3, ?_⟩
 show (∃ a, l = [a] ∧ (k = 1 ∨ k = 2 ∨ k = 4 ∨ k = 6 ∨ k = 7)) ∨ (∃ a b, l = [a, b] ∧ k = 3) ∨ (∃ a m, l = a :: m ∧ 1 ≤ m.length ∧ m.length ≤ 6 ∧ k = 8) ∨ (l.length ≤ 6 ∧ k = 9) ∨ (l = [] ∧ (k = 5 ∨ k = 10 ∨ k = 11))
 have hp : manyI k = some p := hp
 have h1 : p.1 ≤ (l.length : Int) := h1
 have h2 : (l.length : Int) ≤ p.2 := h2
 unfold manyI at hp
 by_cases c1 : k = 1 ∨ k = 2 ∨ k = 4 ∨ k = 6 ∨ k = 7
 ·rw [if_pos c1] at hp
  cases hp
  match l, h1, h2 with
  | [a], _, _ => exact .inl ⟨a, rfl, c1⟩
  | [], h1, _ => exact absurd h1 (by decide)
  | _ :: _ :: _, _, h2 => exact absurd h2 (by simp; omega)
 rw [if_neg c1] at hp
 by_cases c2 : k = 3
 ·rw [if_pos c2] at hp
  cases hp
  match l, h1, h2 with
  | [a, b], _, _ => exact .inr (.inl ⟨a, b, rfl, c2⟩)
  | [], h1, _ => exact absurd h1 (by decide)
  | [_], h1, _ => exact absurd h1 (by simp)
  | _ :: _ :: _ :: _, _, h2 => exact absurd h2 (by simp; omega)
 rw [if_neg c2] at hp
 by_cases c3 : k = 8
 ·rw [if_pos c3] at hp
  cases hp
  match l, h1, h2 with
  | a :: m, h1, h2 => exact .inr (.inr (.inl ⟨a, m, rfl, by rw [List.length_cons] at h1; omega, by rw [List.length_cons] at h2; omega, c3⟩))
  | [], h1, _ => exact absurd h1 (by decide)
 rw [if_neg c3] at hp
 by_cases c4 : k = 9
 ·rw [if_pos c4] at hp
  cases hp
  exact .inr (.inr (.inr (.inl ⟨by omega, c4⟩)))
 rw [if_neg c4] at hp
 by_cases c5 : k = 5 ∨ k = 10 ∨ k = 11
 ·rw [if_pos c5] at hp
  cases hp
  match l, h2 with
  | [], _ => exact .inr (.inr (.inr (.inr ⟨rfl, c5⟩)))
  | _ :: _, h2 => exact absurd h2 (by simp)
 ·rw [if_neg c5] at hp
  exact absurd hp (by simp)
set_option maxRecDepth 100000 in
theorem c_acted_1 (a : Int) (H : List Blk) : ACall Tryz.prog 28 [eEntry (1, [a])] H (.ret (actV (1, [a]))) H := by
 show ACall Tryz.prog 28 [.agg [n' 1, eInts [a]]] H (.ret (actV (1, [a]))) H
 refine fn_rule (m := false) (fn := Tryz.f28) (c := (Tryz.f28.body).getD .skip) mixed (by kernel_rfl) (by kernel_rfl) (of_decide_eq_true (by kernel_rfl)) ?_ ?_ ?_ H
 ·exact ⟨⟨trivial, under_eInts _ _, trivial⟩, trivial⟩
 ·exact trivial
 ·repeat (first | refine IfB.mk (fun _ => ?_) (fun e => absurd e t_ne_f) | refine IfB.mk (fun e => absurd e f_ne_t) (fun _ => ?_) | refine If.mk (fun _ => ?_) (fun h => absurd (of_decide_eq_true rfl) h) | refine If.mk (fun h => absurd h (of_decide_eq_true rfl)) (fun _ => ?_) | refine Ex.mk _ rfl ?_)
  exact ⟨.inl rfl, FinG.mk _ rfl rfl rfl⟩
set_option maxRecDepth 100000 in
theorem c_acted_2 (a : Int) (H : List Blk) : ACall Tryz.prog 28 [eEntry (2, [a])] H (.ret (actV (2, [a]))) H := by
 show ACall Tryz.prog 28 [.agg [n' 2, eInts [a]]] H (.ret (actV (2, [a]))) H
 refine fn_rule (m := false) (fn := Tryz.f28) (c := (Tryz.f28.body).getD .skip) mixed (by kernel_rfl) (by kernel_rfl) (of_decide_eq_true (by kernel_rfl)) ?_ ?_ ?_ H
 ·exact ⟨⟨trivial, under_eInts _ _, trivial⟩, trivial⟩
 ·exact trivial
 ·repeat (first | refine IfB.mk (fun _ => ?_) (fun e => absurd e t_ne_f) | refine IfB.mk (fun e => absurd e f_ne_t) (fun _ => ?_) | refine If.mk (fun _ => ?_) (fun h => absurd (of_decide_eq_true rfl) h) | refine If.mk (fun h => absurd h (of_decide_eq_true rfl)) (fun _ => ?_) | refine Ex.mk _ rfl ?_)
  exact ⟨.inl rfl, FinG.mk _ rfl rfl rfl⟩
set_option maxRecDepth 100000 in
theorem c_acted_3 (a b : Int) (H : List Blk) : ACall Tryz.prog 28 [eEntry (3, [a, b])] H (.ret (actV (3, [a, b]))) H := by
 show ACall Tryz.prog 28 [.agg [n' 3, eInts [a, b]]] H (.ret (actV (3, [a, b]))) H
 refine fn_rule (m := false) (fn := Tryz.f28) (c := (Tryz.f28.body).getD .skip) mixed (by kernel_rfl) (by kernel_rfl) (of_decide_eq_true (by kernel_rfl)) ?_ ?_ ?_ H
 ·exact ⟨⟨trivial, under_eInts _ _, trivial⟩, trivial⟩
 ·exact ⟨trivial, trivial, trivial⟩
 ·repeat (first | refine IfB.mk (fun _ => ?_) (fun e => absurd e t_ne_f) | refine IfB.mk (fun e => absurd e f_ne_t) (fun _ => ?_) | refine If.mk (fun _ => ?_) (fun h => absurd (of_decide_eq_true rfl) h) | refine If.mk (fun h => absurd h (of_decide_eq_true rfl)) (fun _ => ?_) | refine Ex.mk _ rfl ?_)
  exact ⟨.inl rfl, FinG.mk _ rfl rfl rfl⟩
set_option maxRecDepth 100000 in
theorem c_acted_4 (a : Int) (H : List Blk) : ACall Tryz.prog 28 [eEntry (4, [a])] H (.ret (actV (4, [a]))) H := by
 show ACall Tryz.prog 28 [.agg [n' 4, eInts [a]]] H (.ret (actV (4, [a]))) H
 refine fn_rule (m := false) (fn := Tryz.f28) (c := (Tryz.f28.body).getD .skip) mixed (by kernel_rfl) (by kernel_rfl) (of_decide_eq_true (by kernel_rfl)) ?_ ?_ ?_ H
 ·exact ⟨⟨trivial, under_eInts _ _, trivial⟩, trivial⟩
 ·exact ⟨trivial, trivial, trivial⟩
 ·repeat (first | refine IfB.mk (fun _ => ?_) (fun e => absurd e t_ne_f) | refine IfB.mk (fun e => absurd e f_ne_t) (fun _ => ?_) | refine If.mk (fun _ => ?_) (fun h => absurd (of_decide_eq_true rfl) h) | refine If.mk (fun h => absurd h (of_decide_eq_true rfl)) (fun _ => ?_) | refine Ex.mk _ rfl ?_)
  exact ⟨.inl rfl, FinG.mk _ rfl rfl rfl⟩
set_option maxRecDepth 100000 in
theorem c_acted_5  (H : List Blk) : ACall Tryz.prog 28 [eEntry (5, [])] H (.ret (actV (5, []))) H := by
 show ACall Tryz.prog 28 [.agg [n' 5, eInts []]] H (.ret (actV (5, []))) H
 refine fn_rule (m := false) (fn := Tryz.f28) (c := (Tryz.f28.body).getD .skip) mixed (by kernel_rfl) (by kernel_rfl) (of_decide_eq_true (by kernel_rfl)) ?_ ?_ ?_ H
 ·exact ⟨⟨trivial, under_eInts _ _, trivial⟩, trivial⟩
 ·exact trivial
 ·repeat (first | refine IfB.mk (fun _ => ?_) (fun e => absurd e t_ne_f) | refine IfB.mk (fun e => absurd e f_ne_t) (fun _ => ?_) | refine If.mk (fun _ => ?_) (fun h => absurd (of_decide_eq_true rfl) h) | refine If.mk (fun h => absurd h (of_decide_eq_true rfl)) (fun _ => ?_) | refine Ex.mk _ rfl ?_)
  exact ⟨.inl rfl, FinG.mk _ rfl rfl rfl⟩
set_option maxRecDepth 100000 in
theorem c_acted_6 (a : Int) (H : List Blk) : ACall Tryz.prog 28 [eEntry (6, [a])] H (.ret (actV (6, [a]))) H := by
 show ACall Tryz.prog 28 [.agg [n' 6, eInts [a]]] H (.ret (actV (6, [a]))) H
 refine fn_rule (m := false) (fn := Tryz.f28) (c := (Tryz.f28.body).getD .skip) mixed (by kernel_rfl) (by kernel_rfl) (of_decide_eq_true (by kernel_rfl)) ?_ ?_ ?_ H
 ·exact ⟨⟨trivial, under_eInts _ _, trivial⟩, trivial⟩
 ·exact trivial
 ·repeat (first | refine IfB.mk (fun _ => ?_) (fun e => absurd e t_ne_f) | refine IfB.mk (fun e => absurd e f_ne_t) (fun _ => ?_) | refine If.mk (fun _ => ?_) (fun h => absurd (of_decide_eq_true rfl) h) | refine If.mk (fun h => absurd h (of_decide_eq_true rfl)) (fun _ => ?_) | refine Ex.mk _ rfl ?_)
  exact ⟨.inl rfl, FinG.mk _ rfl rfl rfl⟩
set_option maxRecDepth 100000 in
theorem c_acted_7 (a : Int) (H : List Blk) : ACall Tryz.prog 28 [eEntry (7, [a])] H (.ret (actV (7, [a]))) H := by
 show ACall Tryz.prog 28 [.agg [n' 7, eInts [a]]] H (.ret (actV (7, [a]))) H
 refine fn_rule (m := false) (fn := Tryz.f28) (c := (Tryz.f28.body).getD .skip) mixed (by kernel_rfl) (by kernel_rfl) (of_decide_eq_true (by kernel_rfl)) ?_ ?_ ?_ H
 ·exact ⟨⟨trivial, under_eInts _ _, trivial⟩, trivial⟩
 ·exact trivial
 ·repeat (first | refine IfB.mk (fun _ => ?_) (fun e => absurd e t_ne_f) | refine IfB.mk (fun e => absurd e f_ne_t) (fun _ => ?_) | refine If.mk (fun _ => ?_) (fun h => absurd (of_decide_eq_true rfl) h) | refine If.mk (fun h => absurd h (of_decide_eq_true rfl)) (fun _ => ?_) | refine Ex.mk _ rfl ?_)
  exact ⟨.inl rfl, FinG.mk _ rfl rfl rfl⟩
set_option maxRecDepth 100000 in
theorem c_acted_8 (a : Int) (m : List Int) (H : List Blk) : ACall Tryz.prog 28 [eEntry (8, (a :: m))] H (.ret (actV (8, (a :: m)))) H := by
 show ACall Tryz.prog 28 [.agg [n' 8, eInts (a :: m)]] H (.ret (actV (8, (a :: m)))) H
 refine fn_rule (m := false) (fn := Tryz.f28) (c := (Tryz.f28.body).getD .skip) mixed (by kernel_rfl) (by kernel_rfl) (of_decide_eq_true (by kernel_rfl)) ?_ ?_ ?_ H
 ·exact ⟨⟨trivial, under_eInts _ _, trivial⟩, trivial⟩
 ·exact ⟨trivial, under_eInts _ _, trivial⟩
 ·repeat (first | refine IfB.mk (fun _ => ?_) (fun e => absurd e t_ne_f) | refine IfB.mk (fun e => absurd e f_ne_t) (fun _ => ?_) | refine If.mk (fun _ => ?_) (fun h => absurd (of_decide_eq_true rfl) h) | refine If.mk (fun h => absurd h (of_decide_eq_true rfl)) (fun _ => ?_) | refine Ex.mk _ rfl ?_)
  refine Ex.mk _ (jx_ints (l := a :: m) (r := 0) rfl rfl) ?_
  refine Ex.mk _ rfl ?_
  refine Ex.mk _ (aop_slice (a := eInts (a :: m)) (l := some 1) (h := none) rfl rfl rfl rfl rfl rfl (slice_tailI a m)) ?_
  refine ⟨.inl rfl, FinG.mk _ rfl rfl ?_⟩
  show AV.iface 150 (.agg [n' a, AV.freeze _ (eInts m)]) = _
  rw [freeze_eInts]; rfl
set_option maxRecDepth 100000 in
theorem c_acted_9 (l : List Int) (H : List Blk) : ACall Tryz.prog 28 [eEntry (9, l)] H (.ret (actV (9, l))) H := by
 show ACall Tryz.prog 28 [.agg [n' 9, eInts l]] H (.ret (actV (9, l))) H
 refine fn_rule (m := false) (fn := Tryz.f28) (c := (Tryz.f28.body).getD .skip) mixed (by kernel_rfl) (by kernel_rfl) (of_decide_eq_true (by kernel_rfl)) ?_ ?_ ?_ H
 ·exact ⟨⟨trivial, under_eInts _ _, trivial⟩, trivial⟩
 ·exact under_eInts _ _
 ·repeat (first | refine IfB.mk (fun _ => ?_) (fun e => absurd e t_ne_f) | refine IfB.mk (fun e => absurd e f_ne_t) (fun _ => ?_) | refine If.mk (fun _ => ?_) (fun h => absurd (of_decide_eq_true rfl) h) | refine If.mk (fun h => absurd h (of_decide_eq_true rfl)) (fun _ => ?_) | refine Ex.mk _ rfl ?_)
  refine ⟨.inl rfl, FinG.mk _ rfl rfl ?_⟩
  show AV.iface 155 (AV.freeze _ (eInts l)) = _
  rw [freeze_eInts]; rfl
set_option maxRecDepth 100000 in
theorem c_acted_10  (H : List Blk) : ACall Tryz.prog 28 [eEntry (10, [])] H (.ret (actV (10, []))) H := by
 show ACall Tryz.prog 28 [.agg [n' 10, eInts []]] H (.ret (actV (10, []))) H
 refine fn_rule (m := false) (fn := Tryz.f28) (c := (Tryz.f28.body).getD .skip) mixed (by kernel_rfl) (by kernel_rfl) (of_decide_eq_true (by kernel_rfl)) ?_ ?_ ?_ H
 ·exact ⟨⟨trivial, under_eInts _ _, trivial⟩, trivial⟩
 ·exact trivial
 ·repeat (first | refine IfB.mk (fun _ => ?_) (fun e => absurd e t_ne_f) | refine IfB.mk (fun e => absurd e f_ne_t) (fun _ => ?_) | refine If.mk (fun _ => ?_) (fun h => absurd (of_decide_eq_true rfl) h) | refine If.mk (fun h => absurd h (of_decide_eq_true rfl)) (fun _ => ?_) | refine Ex.mk _ rfl ?_)
  exact ⟨.inl rfl, FinG.mk _ rfl rfl rfl⟩
set_option maxRecDepth 100000 in
theorem c_acted_11  (H : List Blk) : ACall Tryz.prog 28 [eEntry (11, [])] H (.ret (actV (11, []))) H := by
 show ACall Tryz.prog 28 [.agg [n' 11, eInts []]] H (.ret (actV (11, []))) H
 refine fn_rule (m := false) (fn := Tryz.f28) (c := (Tryz.f28.body).getD .skip) mixed (by kernel_rfl) (by kernel_rfl) (of_decide_eq_true (by kernel_rfl)) ?_ ?_ ?_ H
 ·exact ⟨⟨trivial, under_eInts _ _, trivial⟩, trivial⟩
 ·exact trivial
 ·repeat (first | refine IfB.mk (fun _ => ?_) (fun e => absurd e t_ne_f) | refine IfB.mk (fun e => absurd e f_ne_t) (fun _ => ?_) | refine If.mk (fun _ => ?_) (fun h => absurd (of_decide_eq_true rfl) h) | refine If.mk (fun h => absurd h (of_decide_eq_true rfl)) (fun _ => ?_) | refine Ex.mk _ rfl ?_)
  exact ⟨.inl rfl, FinG.mk _ rfl rfl rfl⟩
set_option maxRecDepth 100000 in
theorem c_num326 (a : Int) (H : List Blk) : ACall Tryz.prog 326 [n' a] H (.ret (eInts [a])) H := by
 refine ACall.weakRet' (v := .sl 1 [n' a] .full) ?_ (fun H => WeakH.tail _ _ _ H)
 refine fn_rule (m := false) (fn := Tryz.f326) (c := (Tryz.f326.body).getD .skip) mixed (by kernel_rfl) (by kernel_rfl) (of_decide_eq_true (by kernel_rfl)) ?_ ?_ ?_ H
 ·exact ⟨trivial, trivial⟩
 ·exact ⟨⟨trivial, trivial⟩, trivial⟩
 ·exact ⟨.inl rfl, FinG.mk _ rfl rfl rfl⟩
set_option maxRecDepth 100000 in
theorem c_num327 (a : Int) (H : List Blk) : ACall Tryz.prog 327 [n' a] H (.ret (eInts [a])) H := by
 refine ACall.weakRet' (v := .sl 1 [n' a] .full) ?_ (fun H => WeakH.tail _ _ _ H)
 refine fn_rule (m := false) (fn := Tryz.f327) (c := (Tryz.f327.body).getD .skip) mixed (by kernel_rfl) (by kernel_rfl) (of_decide_eq_true (by kernel_rfl)) ?_ ?_ ?_ H
 ·exact ⟨trivial, trivial⟩
 ·exact ⟨⟨trivial, trivial⟩, trivial⟩
 ·exact ⟨.inl rfl, FinG.mk _ rfl rfl rfl⟩
set_option maxRecDepth 100000 in
theorem c_num330 (a : Int) (H : List Blk) : ACall Tryz.prog 330 [n' a] H (.ret (eInts [a])) H := by
 refine ACall.weakRet' (v := .sl 1 [n' a] .full) ?_ (fun H => WeakH.tail _ _ _ H)
 refine fn_rule (m := false) (fn := Tryz.f330) (c := (Tryz.f330.body).getD .skip) mixed (by kernel_rfl) (by kernel_rfl) (of_decide_eq_true (by kernel_rfl)) ?_ ?_ ?_ H
 ·exact ⟨trivial, trivial⟩
 ·exact ⟨⟨trivial, trivial⟩, trivial⟩
 ·exact ⟨.inl rfl, FinG.mk _ rfl rfl rfl⟩
set_option maxRecDepth 100000 in
theorem c_num331 (a : Int) (H : List Blk) : ACall Tryz.prog 331 [n' a] H (.ret (eInts [a])) H := by
 refine ACall.weakRet' (v := .sl 1 [n' a] .full) ?_ (fun H => WeakH.tail _ _ _ H)
 refine fn_rule (m := false) (fn := Tryz.f331) (c := (Tryz.f331.body).getD .skip) mixed (by kernel_rfl) (by kernel_rfl) (of_decide_eq_true (by kernel_rfl)) ?_ ?_ ?_ H
 ·exact ⟨trivial, trivial⟩
 ·exact ⟨⟨trivial, trivial⟩, trivial⟩
 ·exact ⟨.inl rfl, FinG.mk _ rfl rfl rfl⟩
set_option maxRecDepth 100000 in
theorem c_num329 (H : List Blk) : ACall Tryz.prog 329 [.agg []] H (.ret (.lit (.slice none 0 0))) H := by
 refine fn_rule (m := false) (fn := Tryz.f329) (c := (Tryz.f329.body).getD .skip) mixed (by kernel_rfl) (by kernel_rfl) (of_decide_eq_true (by kernel_rfl)) ?_ ?_ ?_ H
 ·exact ⟨trivial, trivial⟩
 ·exact trivial
 ·exact ⟨.inl rfl, FinG.mk _ rfl rfl rfl⟩
set_option maxRecDepth 100000 in
theorem c_num334 (H : List Blk) : ACall Tryz.prog 334 [.agg []] H (.ret (.lit (.slice none 0 0))) H := by
 refine fn_rule (m := false) (fn := Tryz.f334) (c := (Tryz.f334.body).getD .skip) mixed (by kernel_rfl) (by kernel_rfl) (of_decide_eq_true (by kernel_rfl)) ?_ ?_ ?_ H
 ·exact ⟨trivial, trivial⟩
 ·exact trivial
 ·exact ⟨.inl rfl, FinG.mk _ rfl rfl rfl⟩
set_option maxRecDepth 100000 in
theorem c_num335 (H : List Blk) : ACall Tryz.prog 335 [.agg []] H (.ret (.lit (.slice none 0 0))) H := by
 refine fn_rule (m := false) (fn := Tryz.f335) (c := (Tryz.f335.body).getD .skip) mixed (by kernel_rfl) (by kernel_rfl) (of_decide_eq_true (by kernel_rfl)) ?_ ?_ ?_ H
 ·exact ⟨trivial, trivial⟩
 ·exact trivial
 ·exact ⟨.inl rfl, FinG.mk _ rfl rfl rfl⟩
set_option maxRecDepth 100000 in
theorem c_num328 {a b : Int} (hb : 0 ≤ b) (H : List Blk) : ACall Tryz.prog 328 [.agg [n' a, n' b]] H (.ret (eInts [a, b])) H := by
 refine ACall.weakRet' (v := .sl 2 [n' a, n' b] .full) ?_ (fun H => WeakH.tail _ _ _ H)
 refine fn_rule (m := false) (fn := Tryz.f328) (c := (Tryz.f328.body).getD .skip) mixed (by kernel_rfl) (by kernel_rfl) (of_decide_eq_true (by kernel_rfl)) ?_ ?_ ?_ H
 ·exact ⟨⟨trivial, trivial, trivial⟩, trivial⟩
 ·exact ⟨⟨trivial, trivial, trivial⟩, trivial⟩
 ·refine If.mk (fun h => absurd h (by omega)) (fun _ => ?_)
  refine ifN ?_
  exact ⟨.inl rfl, FinG.mk _ rfl rfl rfl⟩
set_option maxRecDepth 100000 in
theorem c_num328k (a : Int) (H : List Blk) : ACall Tryz.prog 328 [.agg [n' a, n' (-1)]] H (.ret (eInts [a])) H := by
 refine ACall.weakRet' (v := .sl 1 [n' a] .full) ?_ (fun H => WeakH.tail _ _ _ H)
 refine fn_rule (m := false) (fn := Tryz.f328) (c := (Tryz.f328.body).getD .skip) mixed (by kernel_rfl) (by kernel_rfl) (of_decide_eq_true (by kernel_rfl)) ?_ ?_ ?_ H
 ·exact ⟨⟨trivial, trivial, trivial⟩, trivial⟩
 ·exact ⟨⟨trivial, trivial⟩, trivial⟩
 ·repeat (first | refine IfB.mk (fun _ => ?_) (fun e => absurd e t_ne_f) | refine IfB.mk (fun e => absurd e f_ne_t) (fun _ => ?_) | refine If.mk (fun _ => ?_) (fun h => absurd (of_decide_eq_true rfl) h) | refine If.mk (fun h => absurd h (of_decide_eq_true rfl)) (fun _ => ?_) | refine Ex.mk _ rfl ?_)
  exact ⟨.inl rfl, FinG.mk _ rfl rfl rfl⟩
set_option maxRecDepth 100000 in
theorem c_num332 (a : Int) {m : List Int} (hm : 1 ≤ m.length ∧ m.length ≤ 6) (H : List Blk) : ACall Tryz.prog 332 [.agg [n' a, eInts m]] H (.ret (eInts (a :: m))) H := by
 refine fn_rule (m := false) (fn := Tryz.f332) (c := (Tryz.f332.body).getD .skip) mixed (by kernel_rfl) (by kernel_rfl) (of_decide_eq_true (by kernel_rfl)) ?_ ?_ ?_ H
 ·exact ⟨⟨trivial, under_eInts _ _, trivial⟩, trivial⟩
 ·exact under_eInts _ _
 ·refine ex_app _ _ (app_cons (a := a) (l := m) (by intro e; rw [e] at hm; simp at hm) (by omega)) ?_
  refine ⟨.inl rfl, FinG.mk _ rfl rfl ?_⟩
  show AV.sl (1 + m.length) (n' a :: AV.freezes _ (m.map n')) .unk = _
  rw [freezes_ints, Nat.add_comm]; rfl
set_option maxRecDepth 100000 in
theorem c_num333 (l : List Int) (H : List Blk) : ACall Tryz.prog 333 [eInts l] H (.ret (eInts l)) H := by
 refine fn_rule (m := false) (fn := Tryz.f333) (c := (Tryz.f333.body).getD .skip) mixed (by kernel_rfl) (by kernel_rfl) (of_decide_eq_true (by kernel_rfl)) ?_ ?_ ?_ H
 ·exact ⟨under_eInts _ _, trivial⟩
 ·exact under_eInts _ _
 ·refine ⟨.inl rfl, FinG.mk _ rfl rfl ?_⟩
  exact freeze_eInts _ _
def tailB (l : List Int) : List UInt8 := (decsB l).flatMap fun w => 32 :: w
def lineE (x : EntryD) : List UInt8 := wordsB.getD (x.1 - 1).toNat [] ++ tailB x.2
theorem tailB_join : ∀ {l : List Int}, l ≠ [] → tailB l = 32 :: joinB l
 | [n], _ => by unfold tailB joinB decsB; rw [List.map_singleton, Lib.join_one]; simp
 | n :: k :: l, _ => by
  have ih := tailB_join (l := k :: l) (by simp)
  have e : joinB (n :: k :: l) = decN n.toNat ++ 32 :: joinB (k :: l) := by
   unfold joinB decsB Lib.join List.intercalate
   rw [List.map_cons, List.map_cons, List.intersperse_cons_cons]
   simp
  rw [e, ← ih]
  unfold tailB decsB
  rw [List.map_cons, List.flatMap_cons]; rfl
theorem row_end {k : Int} {w : List UInt8} {l : List Int} (hw : wordsB.getD (k - 1).toNat [] = w) (hl : l ≠ []) : sA (bT (w ++ [32]) ++ bT (joinB l)) = sA (bT (lineE (k, l))) := by
 rw [bT_app]
 unfold lineE
 show _ = sA (bT (wordsB.getD (k - 1).toNat [] ++ tailB l))
 rw [hw, tailB_join hl]
 simp
set_option maxRecDepth 100000 in
theorem c_row_1 {a : Int} (hn : numOk [a]) (H : List Blk) : ACall Tryz.prog 23 [eEntry (1, [a])] H (.ret (sA (bT (lineE (1, [a]))))) H := by
 show ACall Tryz.prog 23 [.agg [n' 1, eInts [a]]] H (.ret (sA (bT (lineE (1, [a]))))) H
 refine fn_rule (m := false) (fn := Tryz.f23) (c := (Tryz.f23.body).getD .skip) mixed (by kernel_rfl) (by kernel_rfl) (of_decide_eq_true (by kernel_rfl)) ?_ ?_ ?_ H
 ·exact ⟨⟨trivial, under_eInts _ _, trivial⟩, trivial⟩
 ·exact trivial
 ·refine CallG.pure _ (c_words24) ?_
  repeat (first | refine IfB.mk (fun _ => ?_) (fun e => absurd e t_ne_f) | refine IfB.mk (fun e => absurd e f_ne_t) (fun _ => ?_) | refine If.mk (fun _ => ?_) (fun h => absurd (of_decide_eq_true rfl) h) | refine If.mk (fun h => absurd h (of_decide_eq_true rfl)) (fun _ => ?_) | refine Ex.mk _ rfl ?_)
  refine Side.mk (by unfold fitsK; kernel_rfl) ?_
  repeat (first | refine IfB.mk (fun _ => ?_) (fun e => absurd e t_ne_f) | refine IfB.mk (fun e => absurd e f_ne_t) (fun _ => ?_) | refine If.mk (fun _ => ?_) (fun h => absurd (of_decide_eq_true rfl) h) | refine If.mk (fun h => absurd h (of_decide_eq_true rfl)) (fun _ => ?_) | refine Ex.mk _ rfl ?_)
  refine CallG.pure _ (c_acted_1 a) ?_
  refine CallG.pure _ (c_num326 a) ?_
  repeat (first | refine IfB.mk (fun _ => ?_) (fun e => absurd e t_ne_f) | refine IfB.mk (fun e => absurd e f_ne_t) (fun _ => ?_) | refine If.mk (fun _ => ?_) (fun h => absurd (of_decide_eq_true rfl) h) | refine If.mk (fun h => absurd h (of_decide_eq_true rfl)) (fun _ => ?_) | refine Ex.mk _ rfl ?_)
  have hj := joinB_len hn
  refine CallG.pure _ (c_joined63 (l := [a]) hn (by simp)) ?_
  refine now_of (bin_add (a := bT ([119, 97, 105, 116] ++ [32])) ?_) ?_
  ·rw [bT_size, bT_size]
   show 5 + _ ≤ _
   simp only [List.length_cons, List.length_nil] at hj
   omega
  exact ⟨.inl rfl, FinG.mk _ rfl rfl (row_end rfl (by simp))⟩
set_option maxRecDepth 100000 in
theorem c_row_2 {a : Int} (hn : numOk [a]) (H : List Blk) : ACall Tryz.prog 23 [eEntry (2, [a])] H (.ret (sA (bT (lineE (2, [a]))))) H := by
 show ACall Tryz.prog 23 [.agg [n' 2, eInts [a]]] H (.ret (sA (bT (lineE (2, [a]))))) H
 refine fn_rule (m := false) (fn := Tryz.f23) (c := (Tryz.f23.body).getD .skip) mixed (by kernel_rfl) (by kernel_rfl) (of_decide_eq_true (by kernel_rfl)) ?_ ?_ ?_ H
 ·exact ⟨⟨trivial, under_eInts _ _, trivial⟩, trivial⟩
 ·exact trivial
 ·refine CallG.pure _ (c_words24) ?_
  repeat (first | refine IfB.mk (fun _ => ?_) (fun e => absurd e t_ne_f) | refine IfB.mk (fun e => absurd e f_ne_t) (fun _ => ?_) | refine If.mk (fun _ => ?_) (fun h => absurd (of_decide_eq_true rfl) h) | refine If.mk (fun h => absurd h (of_decide_eq_true rfl)) (fun _ => ?_) | refine Ex.mk _ rfl ?_)
  refine Side.mk (by unfold fitsK; kernel_rfl) ?_
  repeat (first | refine IfB.mk (fun _ => ?_) (fun e => absurd e t_ne_f) | refine IfB.mk (fun e => absurd e f_ne_t) (fun _ => ?_) | refine If.mk (fun _ => ?_) (fun h => absurd (of_decide_eq_true rfl) h) | refine If.mk (fun h => absurd h (of_decide_eq_true rfl)) (fun _ => ?_) | refine Ex.mk _ rfl ?_)
  refine CallG.pure _ (c_acted_2 a) ?_
  refine CallG.pure _ (c_num327 a) ?_
  repeat (first | refine IfB.mk (fun _ => ?_) (fun e => absurd e t_ne_f) | refine IfB.mk (fun e => absurd e f_ne_t) (fun _ => ?_) | refine If.mk (fun _ => ?_) (fun h => absurd (of_decide_eq_true rfl) h) | refine If.mk (fun h => absurd h (of_decide_eq_true rfl)) (fun _ => ?_) | refine Ex.mk _ rfl ?_)
  have hj := joinB_len hn
  refine CallG.pure _ (c_joined63 (l := [a]) hn (by simp)) ?_
  refine now_of (bin_add (a := bT ([98, 101, 103, 105, 110] ++ [32])) ?_) ?_
  ·rw [bT_size, bT_size]
   show 6 + _ ≤ _
   simp only [List.length_cons, List.length_nil] at hj
   omega
  exact ⟨.inl rfl, FinG.mk _ rfl rfl (row_end rfl (by simp))⟩
set_option maxRecDepth 100000 in
theorem c_row_3 {a b : Int} (hn : numOk [a, b]) (H : List Blk) : ACall Tryz.prog 23 [eEntry (3, [a, b])] H (.ret (sA (bT (lineE (3, [a, b]))))) H := by
 show ACall Tryz.prog 23 [.agg [n' 3, eInts [a, b]]] H (.ret (sA (bT (lineE (3, [a, b]))))) H
 refine fn_rule (m := false) (fn := Tryz.f23) (c := (Tryz.f23.body).getD .skip) mixed (by kernel_rfl) (by kernel_rfl) (of_decide_eq_true (by kernel_rfl)) ?_ ?_ ?_ H
 ·exact ⟨⟨trivial, under_eInts _ _, trivial⟩, trivial⟩
 ·exact trivial
 ·have hb : 0 ≤ b := (hn b (by simp)).1
  refine CallG.pure _ (c_words24) ?_
  repeat (first | refine IfB.mk (fun _ => ?_) (fun e => absurd e t_ne_f) | refine IfB.mk (fun e => absurd e f_ne_t) (fun _ => ?_) | refine If.mk (fun _ => ?_) (fun h => absurd (of_decide_eq_true rfl) h) | refine If.mk (fun h => absurd h (of_decide_eq_true rfl)) (fun _ => ?_) | refine Ex.mk _ rfl ?_)
  refine Side.mk (by unfold fitsK; kernel_rfl) ?_
  repeat (first | refine IfB.mk (fun _ => ?_) (fun e => absurd e t_ne_f) | refine IfB.mk (fun e => absurd e f_ne_t) (fun _ => ?_) | refine If.mk (fun _ => ?_) (fun h => absurd (of_decide_eq_true rfl) h) | refine If.mk (fun h => absurd h (of_decide_eq_true rfl)) (fun _ => ?_) | refine Ex.mk _ rfl ?_)
  refine CallG.pure _ (c_acted_3 a b) ?_
  refine CallG.pure _ (c_num328 (a := a) (b := b) hb) ?_
  repeat (first | refine IfB.mk (fun _ => ?_) (fun e => absurd e t_ne_f) | refine IfB.mk (fun e => absurd e f_ne_t) (fun _ => ?_) | refine If.mk (fun _ => ?_) (fun h => absurd (of_decide_eq_true rfl) h) | refine If.mk (fun h => absurd h (of_decide_eq_true rfl)) (fun _ => ?_) | refine Ex.mk _ rfl ?_)
  have hj := joinB_len hn
  refine CallG.pure _ (c_joined63 (l := [a, b]) hn (by simp)) ?_
  refine now_of (bin_add (a := bT ([99, 117, 101] ++ [32])) ?_) ?_
  ·rw [bT_size, bT_size]
   show 4 + _ ≤ _
   simp only [List.length_cons, List.length_nil] at hj
   omega
  exact ⟨.inl rfl, FinG.mk _ rfl rfl (row_end rfl (by simp))⟩
set_option maxRecDepth 100000 in
theorem c_row_4 {a : Int} (hn : numOk [a]) (H : List Blk) : ACall Tryz.prog 23 [eEntry (4, [a])] H (.ret (sA (bT (lineE (4, [a]))))) H := by
 show ACall Tryz.prog 23 [.agg [n' 4, eInts [a]]] H (.ret (sA (bT (lineE (4, [a]))))) H
 refine fn_rule (m := false) (fn := Tryz.f23) (c := (Tryz.f23.body).getD .skip) mixed (by kernel_rfl) (by kernel_rfl) (of_decide_eq_true (by kernel_rfl)) ?_ ?_ ?_ H
 ·exact ⟨⟨trivial, under_eInts _ _, trivial⟩, trivial⟩
 ·exact trivial
 ·refine CallG.pure _ (c_words24) ?_
  repeat (first | refine IfB.mk (fun _ => ?_) (fun e => absurd e t_ne_f) | refine IfB.mk (fun e => absurd e f_ne_t) (fun _ => ?_) | refine If.mk (fun _ => ?_) (fun h => absurd (of_decide_eq_true rfl) h) | refine If.mk (fun h => absurd h (of_decide_eq_true rfl)) (fun _ => ?_) | refine Ex.mk _ rfl ?_)
  refine Side.mk (by unfold fitsK; kernel_rfl) ?_
  repeat (first | refine IfB.mk (fun _ => ?_) (fun e => absurd e t_ne_f) | refine IfB.mk (fun e => absurd e f_ne_t) (fun _ => ?_) | refine If.mk (fun _ => ?_) (fun h => absurd (of_decide_eq_true rfl) h) | refine If.mk (fun h => absurd h (of_decide_eq_true rfl)) (fun _ => ?_) | refine Ex.mk _ rfl ?_)
  refine CallG.pure _ (c_acted_4 a) ?_
  refine CallG.pure _ (c_num328k a) ?_
  repeat (first | refine IfB.mk (fun _ => ?_) (fun e => absurd e t_ne_f) | refine IfB.mk (fun e => absurd e f_ne_t) (fun _ => ?_) | refine If.mk (fun _ => ?_) (fun h => absurd (of_decide_eq_true rfl) h) | refine If.mk (fun h => absurd h (of_decide_eq_true rfl)) (fun _ => ?_) | refine Ex.mk _ rfl ?_)
  have hj := joinB_len hn
  refine CallG.pure _ (c_joined63 (l := [a]) hn (by simp)) ?_
  refine now_of (bin_add (a := bT ([107, 110, 111, 99, 107] ++ [32])) ?_) ?_
  ·rw [bT_size, bT_size]
   show 6 + _ ≤ _
   simp only [List.length_cons, List.length_nil] at hj
   omega
  exact ⟨.inl rfl, FinG.mk _ rfl rfl (row_end rfl (by simp))⟩
set_option maxRecDepth 100000 in
theorem c_row_5 (H : List Blk) : ACall Tryz.prog 23 [eEntry (5, [])] H (.ret (sA (bT (lineE (5, []))))) H := by
 show ACall Tryz.prog 23 [.agg [n' 5, eInts []]] H (.ret (sA (bT (lineE (5, []))))) H
 refine fn_rule (m := false) (fn := Tryz.f23) (c := (Tryz.f23.body).getD .skip) mixed (by kernel_rfl) (by kernel_rfl) (of_decide_eq_true (by kernel_rfl)) ?_ ?_ ?_ H
 ·exact ⟨⟨trivial, under_eInts _ _, trivial⟩, trivial⟩
 ·exact trivial
 ·refine CallG.pure _ (c_words24) ?_
  repeat (first | refine IfB.mk (fun _ => ?_) (fun e => absurd e t_ne_f) | refine IfB.mk (fun e => absurd e f_ne_t) (fun _ => ?_) | refine If.mk (fun _ => ?_) (fun h => absurd (of_decide_eq_true rfl) h) | refine If.mk (fun h => absurd h (of_decide_eq_true rfl)) (fun _ => ?_) | refine Ex.mk _ rfl ?_)
  refine Side.mk (by unfold fitsK; kernel_rfl) ?_
  repeat (first | refine IfB.mk (fun _ => ?_) (fun e => absurd e t_ne_f) | refine IfB.mk (fun e => absurd e f_ne_t) (fun _ => ?_) | refine If.mk (fun _ => ?_) (fun h => absurd (of_decide_eq_true rfl) h) | refine If.mk (fun h => absurd h (of_decide_eq_true rfl)) (fun _ => ?_) | refine Ex.mk _ rfl ?_)
  refine CallG.pure _ (c_acted_5) ?_
  refine CallG.pure _ (c_num329) ?_
  repeat (first | refine IfB.mk (fun _ => ?_) (fun e => absurd e t_ne_f) | refine IfB.mk (fun e => absurd e f_ne_t) (fun _ => ?_) | refine If.mk (fun _ => ?_) (fun h => absurd (of_decide_eq_true rfl) h) | refine If.mk (fun h => absurd h (of_decide_eq_true rfl)) (fun _ => ?_) | refine Ex.mk _ rfl ?_)
  exact ⟨.inl rfl, FinG.mk _ rfl rfl rfl⟩
set_option maxRecDepth 100000 in
theorem c_row_6 {a : Int} (hn : numOk [a]) (H : List Blk) : ACall Tryz.prog 23 [eEntry (6, [a])] H (.ret (sA (bT (lineE (6, [a]))))) H := by
 show ACall Tryz.prog 23 [.agg [n' 6, eInts [a]]] H (.ret (sA (bT (lineE (6, [a]))))) H
 refine fn_rule (m := false) (fn := Tryz.f23) (c := (Tryz.f23.body).getD .skip) mixed (by kernel_rfl) (by kernel_rfl) (of_decide_eq_true (by kernel_rfl)) ?_ ?_ ?_ H
 ·exact ⟨⟨trivial, under_eInts _ _, trivial⟩, trivial⟩
 ·exact trivial
 ·refine CallG.pure _ (c_words24) ?_
  repeat (first | refine IfB.mk (fun _ => ?_) (fun e => absurd e t_ne_f) | refine IfB.mk (fun e => absurd e f_ne_t) (fun _ => ?_) | refine If.mk (fun _ => ?_) (fun h => absurd (of_decide_eq_true rfl) h) | refine If.mk (fun h => absurd h (of_decide_eq_true rfl)) (fun _ => ?_) | refine Ex.mk _ rfl ?_)
  refine Side.mk (by unfold fitsK; kernel_rfl) ?_
  repeat (first | refine IfB.mk (fun _ => ?_) (fun e => absurd e t_ne_f) | refine IfB.mk (fun e => absurd e f_ne_t) (fun _ => ?_) | refine If.mk (fun _ => ?_) (fun h => absurd (of_decide_eq_true rfl) h) | refine If.mk (fun h => absurd h (of_decide_eq_true rfl)) (fun _ => ?_) | refine Ex.mk _ rfl ?_)
  refine CallG.pure _ (c_acted_6 a) ?_
  refine CallG.pure _ (c_num330 a) ?_
  repeat (first | refine IfB.mk (fun _ => ?_) (fun e => absurd e t_ne_f) | refine IfB.mk (fun e => absurd e f_ne_t) (fun _ => ?_) | refine If.mk (fun _ => ?_) (fun h => absurd (of_decide_eq_true rfl) h) | refine If.mk (fun h => absurd h (of_decide_eq_true rfl)) (fun _ => ?_) | refine Ex.mk _ rfl ?_)
  have hj := joinB_len hn
  refine CallG.pure _ (c_joined63 (l := [a]) hn (by simp)) ?_
  refine now_of (bin_add (a := bT ([112, 108, 97, 121] ++ [32])) ?_) ?_
  ·rw [bT_size, bT_size]
   show 5 + _ ≤ _
   simp only [List.length_cons, List.length_nil] at hj
   omega
  exact ⟨.inl rfl, FinG.mk _ rfl rfl (row_end rfl (by simp))⟩
set_option maxRecDepth 100000 in
theorem c_row_7 {a : Int} (hn : numOk [a]) (H : List Blk) : ACall Tryz.prog 23 [eEntry (7, [a])] H (.ret (sA (bT (lineE (7, [a]))))) H := by
 show ACall Tryz.prog 23 [.agg [n' 7, eInts [a]]] H (.ret (sA (bT (lineE (7, [a]))))) H
 refine fn_rule (m := false) (fn := Tryz.f23) (c := (Tryz.f23.body).getD .skip) mixed (by kernel_rfl) (by kernel_rfl) (of_decide_eq_true (by kernel_rfl)) ?_ ?_ ?_ H
 ·exact ⟨⟨trivial, under_eInts _ _, trivial⟩, trivial⟩
 ·exact trivial
 ·refine CallG.pure _ (c_words24) ?_
  repeat (first | refine IfB.mk (fun _ => ?_) (fun e => absurd e t_ne_f) | refine IfB.mk (fun e => absurd e f_ne_t) (fun _ => ?_) | refine If.mk (fun _ => ?_) (fun h => absurd (of_decide_eq_true rfl) h) | refine If.mk (fun h => absurd h (of_decide_eq_true rfl)) (fun _ => ?_) | refine Ex.mk _ rfl ?_)
  refine Side.mk (by unfold fitsK; kernel_rfl) ?_
  repeat (first | refine IfB.mk (fun _ => ?_) (fun e => absurd e t_ne_f) | refine IfB.mk (fun e => absurd e f_ne_t) (fun _ => ?_) | refine If.mk (fun _ => ?_) (fun h => absurd (of_decide_eq_true rfl) h) | refine If.mk (fun h => absurd h (of_decide_eq_true rfl)) (fun _ => ?_) | refine Ex.mk _ rfl ?_)
  refine CallG.pure _ (c_acted_7 a) ?_
  refine CallG.pure _ (c_num331 a) ?_
  repeat (first | refine IfB.mk (fun _ => ?_) (fun e => absurd e t_ne_f) | refine IfB.mk (fun e => absurd e f_ne_t) (fun _ => ?_) | refine If.mk (fun _ => ?_) (fun h => absurd (of_decide_eq_true rfl) h) | refine If.mk (fun h => absurd h (of_decide_eq_true rfl)) (fun _ => ?_) | refine Ex.mk _ rfl ?_)
  have hj := joinB_len hn
  refine CallG.pure _ (c_joined63 (l := [a]) hn (by simp)) ?_
  refine now_of (bin_add (a := bT ([108, 101, 110, 100] ++ [32])) ?_) ?_
  ·rw [bT_size, bT_size]
   show 5 + _ ≤ _
   simp only [List.length_cons, List.length_nil] at hj
   omega
  exact ⟨.inl rfl, FinG.mk _ rfl rfl (row_end rfl (by simp))⟩
set_option maxRecDepth 100000 in
theorem c_row_8 {a : Int} {m : List Int} (hm : 1 ≤ m.length ∧ m.length ≤ 6) (hn : numOk (a :: m)) (H : List Blk) : ACall Tryz.prog 23 [eEntry (8, (a :: m))] H (.ret (sA (bT (lineE (8, (a :: m)))))) H := by
 show ACall Tryz.prog 23 [.agg [n' 8, eInts (a :: m)]] H (.ret (sA (bT (lineE (8, (a :: m)))))) H
 refine fn_rule (m := false) (fn := Tryz.f23) (c := (Tryz.f23.body).getD .skip) mixed (by kernel_rfl) (by kernel_rfl) (of_decide_eq_true (by kernel_rfl)) ?_ ?_ ?_ H
 ·exact ⟨⟨trivial, under_eInts _ _, trivial⟩, trivial⟩
 ·exact trivial
 ·refine CallG.pure _ (c_words24) ?_
  repeat (first | refine IfB.mk (fun _ => ?_) (fun e => absurd e t_ne_f) | refine IfB.mk (fun e => absurd e f_ne_t) (fun _ => ?_) | refine If.mk (fun _ => ?_) (fun h => absurd (of_decide_eq_true rfl) h) | refine If.mk (fun h => absurd h (of_decide_eq_true rfl)) (fun _ => ?_) | refine Ex.mk _ rfl ?_)
  refine Side.mk (by unfold fitsK; kernel_rfl) ?_
  repeat (first | refine IfB.mk (fun _ => ?_) (fun e => absurd e t_ne_f) | refine IfB.mk (fun e => absurd e f_ne_t) (fun _ => ?_) | refine If.mk (fun _ => ?_) (fun h => absurd (of_decide_eq_true rfl) h) | refine If.mk (fun h => absurd h (of_decide_eq_true rfl)) (fun _ => ?_) | refine Ex.mk _ rfl ?_)
  refine CallG.pure _ (c_acted_8 a m) ?_
  refine CallG.pure _ (c_num332 a hm) ?_
  refine If.mk (fun h => absurd h ((by intro e; have : ((a :: m).length : Int) = 0 := e; rw [List.length_cons] at this; omega))) (fun _ => ?_)
  refine ifN ?_
  have hj := joinB_len hn
  refine CallG.pure _ (c_joined63 (l := a :: m) hn (by rw [List.length_cons]; omega)) ?_
  refine now_of (bin_add (a := bT ([98, 97, 99, 107] ++ [32])) ?_) ?_
  ·rw [bT_size, bT_size]
   show 5 + _ ≤ _
   simp only [List.length_cons] at hj
   omega
  exact ⟨.inl rfl, FinG.mk _ rfl rfl (row_end rfl (by simp))⟩
set_option maxRecDepth 100000 in
theorem c_row_9 {l : List Int} (hm : l.length ≤ 6) (hn : numOk l) (H : List Blk) : ACall Tryz.prog 23 [eEntry (9, l)] H (.ret (sA (bT (lineE (9, l))))) H := by
 show ACall Tryz.prog 23 [.agg [n' 9, eInts l]] H (.ret (sA (bT (lineE (9, l))))) H
 refine fn_rule (m := false) (fn := Tryz.f23) (c := (Tryz.f23.body).getD .skip) mixed (by kernel_rfl) (by kernel_rfl) (of_decide_eq_true (by kernel_rfl)) ?_ ?_ ?_ H
 ·exact ⟨⟨trivial, under_eInts _ _, trivial⟩, trivial⟩
 ·exact trivial
 ·refine CallG.pure _ (c_words24) ?_
  repeat (first | refine IfB.mk (fun _ => ?_) (fun e => absurd e t_ne_f) | refine IfB.mk (fun e => absurd e f_ne_t) (fun _ => ?_) | refine If.mk (fun _ => ?_) (fun h => absurd (of_decide_eq_true rfl) h) | refine If.mk (fun h => absurd h (of_decide_eq_true rfl)) (fun _ => ?_) | refine Ex.mk _ rfl ?_)
  refine Side.mk (by unfold fitsK; kernel_rfl) ?_
  repeat (first | refine IfB.mk (fun _ => ?_) (fun e => absurd e t_ne_f) | refine IfB.mk (fun e => absurd e f_ne_t) (fun _ => ?_) | refine If.mk (fun _ => ?_) (fun h => absurd (of_decide_eq_true rfl) h) | refine If.mk (fun h => absurd h (of_decide_eq_true rfl)) (fun _ => ?_) | refine Ex.mk _ rfl ?_)
  refine CallG.pure _ (c_acted_9 l) ?_
  refine CallG.pure _ (c_num333 l) ?_
  have hj := joinB_len hn
  by_cases h0 : l = []
  ·subst h0
   repeat (first | refine IfB.mk (fun _ => ?_) (fun e => absurd e t_ne_f) | refine IfB.mk (fun e => absurd e f_ne_t) (fun _ => ?_) | refine If.mk (fun _ => ?_) (fun h => absurd (of_decide_eq_true rfl) h) | refine If.mk (fun h => absurd h (of_decide_eq_true rfl)) (fun _ => ?_) | refine Ex.mk _ rfl ?_)
   exact ⟨.inl rfl, FinG.mk _ rfl rfl rfl⟩
  ·refine If.mk (fun h => absurd h ((by intro e; exact h0 (List.length_eq_zero_iff.1 (by have : (l.length : Int) = 0 := e; omega))))) (fun _ => ?_)
   refine ifN ?_
   refine CallG.pure _ (c_joined63 hn (by omega)) ?_
   refine now_of (bin_add (a := bT ([112, 97, 99, 107] ++ [32])) ?_) ?_
   ·rw [bT_size, bT_size]
    show 5 + _ ≤ _
    omega
   exact ⟨.inl rfl, FinG.mk _ rfl rfl (row_end rfl h0)⟩
set_option maxRecDepth 100000 in
theorem c_row_10 (H : List Blk) : ACall Tryz.prog 23 [eEntry (10, [])] H (.ret (sA (bT (lineE (10, []))))) H := by
 show ACall Tryz.prog 23 [.agg [n' 10, eInts []]] H (.ret (sA (bT (lineE (10, []))))) H
 refine fn_rule (m := false) (fn := Tryz.f23) (c := (Tryz.f23.body).getD .skip) mixed (by kernel_rfl) (by kernel_rfl) (of_decide_eq_true (by kernel_rfl)) ?_ ?_ ?_ H
 ·exact ⟨⟨trivial, under_eInts _ _, trivial⟩, trivial⟩
 ·exact trivial
 ·refine CallG.pure _ (c_words24) ?_
  repeat (first | refine IfB.mk (fun _ => ?_) (fun e => absurd e t_ne_f) | refine IfB.mk (fun e => absurd e f_ne_t) (fun _ => ?_) | refine If.mk (fun _ => ?_) (fun h => absurd (of_decide_eq_true rfl) h) | refine If.mk (fun h => absurd h (of_decide_eq_true rfl)) (fun _ => ?_) | refine Ex.mk _ rfl ?_)
  refine Side.mk (by unfold fitsK; kernel_rfl) ?_
  repeat (first | refine IfB.mk (fun _ => ?_) (fun e => absurd e t_ne_f) | refine IfB.mk (fun e => absurd e f_ne_t) (fun _ => ?_) | refine If.mk (fun _ => ?_) (fun h => absurd (of_decide_eq_true rfl) h) | refine If.mk (fun h => absurd h (of_decide_eq_true rfl)) (fun _ => ?_) | refine Ex.mk _ rfl ?_)
  refine CallG.pure _ (c_acted_10) ?_
  refine CallG.pure _ (c_num334) ?_
  repeat (first | refine IfB.mk (fun _ => ?_) (fun e => absurd e t_ne_f) | refine IfB.mk (fun e => absurd e f_ne_t) (fun _ => ?_) | refine If.mk (fun _ => ?_) (fun h => absurd (of_decide_eq_true rfl) h) | refine If.mk (fun h => absurd h (of_decide_eq_true rfl)) (fun _ => ?_) | refine Ex.mk _ rfl ?_)
  exact ⟨.inl rfl, FinG.mk _ rfl rfl rfl⟩
set_option maxRecDepth 100000 in
theorem c_row_11 (H : List Blk) : ACall Tryz.prog 23 [eEntry (11, [])] H (.ret (sA (bT (lineE (11, []))))) H := by
 show ACall Tryz.prog 23 [.agg [n' 11, eInts []]] H (.ret (sA (bT (lineE (11, []))))) H
 refine fn_rule (m := false) (fn := Tryz.f23) (c := (Tryz.f23.body).getD .skip) mixed (by kernel_rfl) (by kernel_rfl) (of_decide_eq_true (by kernel_rfl)) ?_ ?_ ?_ H
 ·exact ⟨⟨trivial, under_eInts _ _, trivial⟩, trivial⟩
 ·exact trivial
 ·refine CallG.pure _ (c_words24) ?_
  repeat (first | refine IfB.mk (fun _ => ?_) (fun e => absurd e t_ne_f) | refine IfB.mk (fun e => absurd e f_ne_t) (fun _ => ?_) | refine If.mk (fun _ => ?_) (fun h => absurd (of_decide_eq_true rfl) h) | refine If.mk (fun h => absurd h (of_decide_eq_true rfl)) (fun _ => ?_) | refine Ex.mk _ rfl ?_)
  refine Side.mk (by unfold fitsK; kernel_rfl) ?_
  repeat (first | refine IfB.mk (fun _ => ?_) (fun e => absurd e t_ne_f) | refine IfB.mk (fun e => absurd e f_ne_t) (fun _ => ?_) | refine If.mk (fun _ => ?_) (fun h => absurd (of_decide_eq_true rfl) h) | refine If.mk (fun h => absurd h (of_decide_eq_true rfl)) (fun _ => ?_) | refine Ex.mk _ rfl ?_)
  refine CallG.pure _ (c_acted_11) ?_
  refine CallG.pure _ (c_num335) ?_
  repeat (first | refine IfB.mk (fun _ => ?_) (fun e => absurd e t_ne_f) | refine IfB.mk (fun e => absurd e f_ne_t) (fun _ => ?_) | refine If.mk (fun _ => ?_) (fun h => absurd (of_decide_eq_true rfl) h) | refine If.mk (fun h => absurd h (of_decide_eq_true rfl)) (fun _ => ?_) | refine Ex.mk _ rfl ?_)
  exact ⟨.inl rfl, FinG.mk _ rfl rfl rfl⟩
theorem c_row {x : EntryD} (hx : formedI x) (H : List Blk) : ACall Tryz.prog 23 [eEntry x] H (.ret (sA (bT (lineE x)))) H := by
 obtain ⟨k, l⟩ := x
 obtain ⟨hn, ⟨a, e, h⟩ | ⟨a, b, e, h⟩ | ⟨a, m, e, hm1, hm2, h⟩ | ⟨hm, h⟩ | ⟨e, h⟩⟩ := formed_cases hx
 ·have e : l = [a] := e
  subst e
  rcases h with h | h | h | h | h
  ·have h : k = 1 := h
   subst h; exact c_row_1 hn H
  ·have h : k = 2 := h
   subst h; exact c_row_2 hn H
  ·have h : k = 4 := h
   subst h; exact c_row_4 hn H
  ·have h : k = 6 := h
   subst h; exact c_row_6 hn H
  ·have h : k = 7 := h
   subst h; exact c_row_7 hn H
 ·have e : l = [a, b] := e
  have h : k = 3 := h
  subst e h
  exact c_row_3 hn H
 ·have e : l = a :: m := e
  have h : k = 8 := h
  subst e h
  exact c_row_8 ⟨hm1, hm2⟩ hn H
 ·have h : k = 9 := h
  subst h
  exact c_row_9 hm hn H
 ·have e : l = [] := e
  subst e
  rcases h with h | h | h
  ·have h : k = 5 := h
   subst h; exact c_row_5 H
  ·have h : k = 10 := h
   subst h; exact c_row_10 H
  ·have h : k = 11 := h
   subst h; exact c_row_11 H
set_option maxRecDepth 100000 in
theorem c_Write {x : EntryD} (hl : x.2.length < 4611686018427387904) (H : List Blk) : ACall Tryz.prog 10 [eEntry x] H (.ret (if formedI x then .tup [sA (bT (lineE x)), n' 0] else .tup [sA (bT []), n' 2])) H := by
 refine fn_rule (m := false) (fn := Tryz.f10) (c := (Tryz.f10.body).getD .skip) mixed (by kernel_rfl) (by kernel_rfl) (of_decide_eq_true (by kernel_rfl)) ?_ ?_ ?_ H
 ·exact ⟨under_eEntry _ _, trivial⟩
 ·split <;> exact ⟨trivial, trivial, trivial⟩
 ·refine CallG.bool (c_isFormed x hl) (fun h => ?_) (fun h => ?_)
  ·rw [if_pos h]
   repeat (first | refine IfB.mk (fun _ => ?_) (fun e => absurd e t_ne_f) | refine IfB.mk (fun e => absurd e f_ne_t) (fun _ => ?_) | refine If.mk (fun _ => ?_) (fun h => absurd (of_decide_eq_true rfl) h) | refine If.mk (fun h => absurd h (of_decide_eq_true rfl)) (fun _ => ?_) | refine Ex.mk _ rfl ?_)
   refine CallG.pure _ (c_row h) ?_
   exact ⟨.inl rfl, FinG.mk _ rfl rfl rfl⟩
  ·rw [if_neg h]
   repeat (first | refine IfB.mk (fun _ => ?_) (fun e => absurd e t_ne_f) | refine IfB.mk (fun e => absurd e f_ne_t) (fun _ => ?_) | refine If.mk (fun _ => ?_) (fun h => absurd (of_decide_eq_true rfl) h) | refine If.mk (fun h => absurd h (of_decide_eq_true rfl)) (fun _ => ?_) | refine Ex.mk _ rfl ?_)
   exact ⟨.inl rfl, FinG.mk _ rfl rfl rfl⟩
end Go.Vm

namespace Go.Vm
open Go.Proofs Go.RowKit
set_option maxRecDepth 100000 in
theorem c_same35 (a b : List Int) (ha : a.length < 9223372036854775808) (H : List Blk) : ACall Tryz.prog 35 [eInts a, eInts b] H (.ret (.lit (.bool (decide (a = b))))) H := by
 refine fn_rule (m := false) (fn := Tryz.f35) (c := (Tryz.f35.body).getD .skip) mixed (by kernel_rfl) (by kernel_rfl) (of_decide_eq_true (by kernel_rfl)) ?_ ?_ ?_ H
 ·exact ⟨under_eInts _ _, under_eInts _ _, trivial⟩
 ·trivial
 ·refine CallG.bool (c_same a b ha) (fun h => ?_) (fun h => ?_)
  ·exact ⟨.inl rfl, FinG.yes rfl rfl (h)⟩
  ·exact ⟨.inl rfl, FinG.no rfl rfl (h)⟩
set_option maxRecDepth 100000 in
theorem c_sameE (x y : EntryD) (ha : x.2.length < 9223372036854775808) (H : List Blk) : ACall Tryz.prog 14 [eEntry x, eEntry y] H (.ret (.lit (.bool (decide (x = y))))) H := by
 refine fn_rule (m := false) (fn := Tryz.f14) (c := (Tryz.f14.body).getD .skip) mixed (by kernel_rfl) (by kernel_rfl) (of_decide_eq_true (by kernel_rfl)) ?_ ?_ ?_ H
 ·exact ⟨under_eEntry _ _, under_eEntry _ _, trivial⟩
 ·trivial
 ·refine If.mk (fun h1 => ?_) (fun h1 => ?_)
  ·refine CallG.bool (c_same35 x.2 y.2 ha) (fun h2 => ?_) (fun h2 => ?_)
   ·exact ⟨.inl rfl, FinG.yes rfl rfl (Prod.ext h1 h2)⟩
   ·exact ⟨.inl rfl, FinG.no rfl rfl (fun e => h2 (by rw [e]))⟩
  ·exact ⟨.inl rfl, FinG.no rfl rfl (fun e => h1 (by rw [e]))⟩
def rmanyI (k : Int) : Int × Int := (manyI k).getD (0, -1)
def rmanyV (k : Int) : AV := .agg [n' (rmanyI k).1, n' (rmanyI k).2]
set_option maxRecDepth 100000 in
theorem c_many30 (k : Int) (H : List Blk) : ACall Tryz.prog 30 [n' k] H (.ret (rmanyV k)) H := by
 by_cases hk : 1 ≤ k ∧ k ≤ 11
 ·have : k = 1 ∨ k = 2 ∨ k = 3 ∨ k = 4 ∨ k = 5 ∨ k = 6 ∨ k = 7 ∨ k = 8 ∨ k = 9 ∨ k = 10 ∨ k = 11 := by omega
  rcases this with rfl | rfl | rfl | rfl | rfl | rfl | rfl | rfl | rfl | rfl | rfl
  all_goals
   refine fn_rule (m := false) (fn := Tryz.f30) (c := (Tryz.f30.body).getD .skip) mixed (by kernel_rfl) (by kernel_rfl) (of_decide_eq_true (by kernel_rfl)) ?_ ?_ ?_ H
   ·exact ⟨trivial, trivial⟩
   ·exact ⟨trivial, trivial, trivial⟩
   ·repeat (first | refine Side.mk (by unfold fitsK; kernel_rfl) ?_ | refine IfB.mk (fun _ => ?_) (fun e => absurd e t_ne_f) | refine IfB.mk (fun e => absurd e f_ne_t) (fun _ => ?_) | refine If.mk (fun _ => ?_) (fun h => absurd (of_decide_eq_true rfl) h) | refine If.mk (fun h => absurd h (of_decide_eq_true rfl)) (fun _ => ?_) | refine Ex.mk _ rfl ?_)
    exact ⟨.inl rfl, FinG.mk _ rfl rfl rfl⟩
 ·refine fn_rule (m := false) (fn := Tryz.f30) (c := (Tryz.f30.body).getD .skip) mixed (by kernel_rfl) (by kernel_rfl) (of_decide_eq_true (by kernel_rfl)) ?_ ?_ ?_ H
  ·exact ⟨trivial, trivial⟩
  ·exact ⟨trivial, trivial, trivial⟩
  ·refine If.mk (fun h => absurd h (by omega)) (fun _ => ?_)
   refine ifN ?_
   refine If.mk (fun h => absurd h (by omega)) (fun _ => ?_)
   refine ifN ?_
   have e0 : rmanyI k = (0, -1) := by
    unfold rmanyI manyI
    rw [if_neg (by omega), if_neg (by omega), if_neg (by omega), if_neg (by omega), if_neg (by omega)]; rfl
   refine If.mk (fun h1 => ?_) (fun h1 => ?_)
   ·refine ifY ?_
    refine ⟨.inl rfl, FinG.mk _ rfl rfl ?_⟩
    unfold rmanyV
    rw [e0]; rfl
   ·refine If.mk (fun _ => ?_) (fun h => absurd (by omega) h)
    refine ifY ?_
    refine ⟨.inl rfl, FinG.mk _ rfl rfl ?_⟩
    unfold rmanyV
    rw [e0]; rfl
theorem formed_iff {x : EntryD} : formedI x ↔ numOk x.2 ∧ (rmanyI x.1).1 ≤ (x.2.length : Int) ∧ (x.2.length : Int) ≤ (rmanyI x.1).2 := by
  unfold formedI rmanyI
  cases h : manyI x.1 with
  | none => exact ⟨fun ⟨⟨p, e, _⟩, _⟩ => (by cases e), fun ⟨_, h1, h2⟩ => by
      have h1 : (0 : Int) ≤ (x.2.length : Int) := h1
      have h2 : (x.2.length : Int) ≤ -1 := h2
      omega⟩
  | some p => exact ⟨fun ⟨⟨q, e, h1⟩, h2⟩ => (by cases e; exact ⟨h2, h1⟩), fun ⟨h2, h1⟩ => ⟨⟨p, rfl, h1⟩, h2⟩⟩
set_option maxRecDepth 100000 in
theorem c_name {k : Int} (hk : 1 ≤ k ∧ k ≤ 11) (H : List Blk) : ACall Tryz.prog 34 [n' k] H (.ret (sA (bT (wordsB.getD (k - 1).toNat [])))) H := by
 have : k = 1 ∨ k = 2 ∨ k = 3 ∨ k = 4 ∨ k = 5 ∨ k = 6 ∨ k = 7 ∨ k = 8 ∨ k = 9 ∨ k = 10 ∨ k = 11 := by omega
 rcases this with rfl | rfl | rfl | rfl | rfl | rfl | rfl | rfl | rfl | rfl | rfl
 all_goals
  refine fn_rule (m := false) (fn := Tryz.f34) (c := (Tryz.f34.body).getD .skip) mixed (by kernel_rfl) (by kernel_rfl) (of_decide_eq_true (by kernel_rfl)) ?_ ?_ ?_ H
  ·exact ⟨trivial, trivial⟩
  ·exact trivial
  ·repeat (first | refine Side.mk (by unfold fitsK; kernel_rfl) ?_ | refine Ex.mk _ rfl ?_)
   exact ⟨.inl rfl, FinG.mk _ rfl rfl rfl⟩
theorem formed_kind {x : EntryD} (h : formedI x) : 1 ≤ x.1 ∧ x.1 ≤ 11 := by
 obtain ⟨_, ⟨a, _, h⟩ | ⟨a, b, _, h⟩ | ⟨a, m, _, _, _, h⟩ | ⟨_, h⟩ | ⟨_, h⟩⟩ := formed_cases h <;> omega
end Go.Vm

namespace Go.Vm
open Go.Proofs Go.RowKit
def whyD (k : ByteArray) : AV := .iface 129 (.agg [.lit (.string k)])
set_option maxRecDepth 100000 in
theorem c_must_yes (k : ByteArray) (H : List Blk) : ACall Tryz.prog 69 [.lit (.bool true), sA k] H (.ret (.tup [])) H := by
 refine fn_rule (m := false) (fn := Tryz.f69) (c := (Tryz.f69.body).getD .skip) mixed (by kernel_rfl) (by kernel_rfl) (of_decide_eq_true (by kernel_rfl)) ?_ ?_ ?_ H
 ·exact ⟨trivial, trivial, trivial⟩
 ·exact trivial
 ·refine ifN ?_
  exact ⟨.inr rfl, FinG.mk _ rfl rfl rfl⟩
set_option maxRecDepth 100000 in
theorem c_must_no (k : ByteArray) (H : List Blk) : ACall Tryz.prog 69 [.lit (.bool false), sA k] H (.pan (whyD k)) H := by
 have h := fn_ruleP (P := Tryz.prog) (f := 69) (args := [.lit (.bool false), sA k]) (R := fun _ => False) (R' := fun v => v = whyD k) (m := false) (fn := Tryz.f69) (c := (Tryz.f69.body).getD .skip) mixed (by kernel_rfl) (by kernel_rfl) (of_decide_eq_true (by kernel_rfl)) ⟨trivial, trivial, trivial⟩ (fun _ h => h.elim) (fun v h => by rw [h]; rfl) (by
  refine ifY ?_
  exact .inr ⟨_, rfl, rfl, rfl⟩)
 rcases h with ⟨v, h, _⟩ | ⟨v, rfl, h⟩
 ·exact h.elim
 ·exact h H
theorem CallG.must {b : Bool} {k : ByteArray} {t : Trie Blk} {n : Nat} {K Kp : AV → Trie Blk → Nat → Nat → Prop} (h1 : b = true → K (.tup []) t n noLo) (h2 : b = false → Kp (whyD k) t n noLo) : CallG Tryz.prog 69 [.lit (.bool b), sA k] t n K Kp := by
 cases b with
 | true => exact .pure _ (c_must_yes k) (h1 rfl)
 | false => exact .pan _ (c_must_no k) (h2 rfl)
def numD (u : List UInt8) : Option Nat := if (u ≠ [] ∧ ∀ b ∈ u, isDig b = true) ∧ u.length ≤ 4 ∧ decN (numAt u u.length) = u ∧ numAt u u.length ≤ 1000 then some (numAt u u.length) else none
theorem numD_some {u : List UInt8} {n : Nat} (h : numD u = some n) : (u ≠ [] ∧ ∀ b ∈ u, isDig b = true) ∧ u.length ≤ 4 ∧ decN n = u ∧ n ≤ 1000 ∧ n = numAt u u.length := by
 unfold numD at h
 split at h
 ·rename_i hc
  cases h
  exact ⟨hc.1, hc.2.1, hc.2.2.1, hc.2.2.2, rfl⟩
 ·cases h
theorem numD_not {u : List UInt8} (h : ¬ ((u ≠ [] ∧ ∀ b ∈ u, isDig b = true) ∧ u.length ≤ 4 ∧ decN (numAt u u.length) = u ∧ numAt u u.length ≤ 1000)) : numD u = none := if_neg h
theorem numAt_pow {u : List UInt8} : ∀ {j : Nat}, (∀ (i : Nat) (b : UInt8), i < j → u[i]? = some b → isDig b = true) → j ≤ u.length → numAt u j < 10 ^ j
 | 0, _, _ => by show 0 < 1; decide
 | j + 1, hd, h => by
  have ih := numAt_pow (u := u) (j := j) (fun i b h1 h2 => hd i b (by omega) h2) (by omega)
  obtain ⟨x, hx⟩ : ∃ x, u[j]? = some x := ⟨_, List.getElem?_eq_getElem (by omega)⟩
  have := (isDig_dg (hd j x (by omega) hx)).1
  show 10 * numAt u j + dg (u.getD j 0) < 10 ^ (j + 1)
  rw [List.getD_eq_getElem?_getD, hx, Nat.pow_succ]
  simp only [Option.getD_some]
  omega
set_option maxHeartbeats 4000000 in
set_option maxRecDepth 100000 in
theorem c_number {u : List UInt8} (hl : u.length ≤ 600) :
  (∃ v, (∃ n, numD u = some n ∧ v = n' (n : Nat)) ∧ ∀ H, ACall Tryz.prog 138 [sA (bT u)] H (.ret v) H) ∨ ∃ v, (numD u = none ∧ v = whyD (bT u)) ∧ ∀ H, ACall Tryz.prog 138 [sA (bT u)] H (.pan v) H := by
 refine fn_ruleP (m := false) (fn := Tryz.f138) (c := (Tryz.f138.body).getD .skip) mixed (by kernel_rfl) (by kernel_rfl) (of_decide_eq_true (by kernel_rfl)) ⟨trivial, trivial⟩ (fun v h => ?_) (fun v h => ?_) ?_
 ·obtain ⟨r, _, rfl⟩ := h
  trivial
 ·obtain ⟨_, rfl⟩ := h
  rfl
 ·obtain ⟨X, hX⟩ : ∃ X, X = sA (bT u) := ⟨_, rfl⟩
  refine LoopG.at (n0 := 1) rfl (LoopG.after (loop_up mixed (m := false) (fun j => [(0, sA (bT u)), (3, n' (numAt u j)), (7, .ptr 0 0)]) (fun j => [(0, .iterS (bT u) j)]) (fun j => (∀ (i : Nat) b, i < j → u[i]? = some b → isDig b = true) ∧ (0 < j → u.length ≤ 4)) u.length 0 (leb rfl) ⟨fun i b h => by omega, fun h => by omega⟩ ?_ ?_ ?_))
  ·exact ⟨wp rfl trivial, wp rfl trivial, wp rfl (ltb rfl), trivial⟩
  ·exact ⟨bk rfl rfl, trivial⟩
  intro j hj hJ
  by_cases hjl : j < u.length
  ·obtain ⟨x, hx⟩ : ∃ x, u[j]? = some x := ⟨_, List.getElem?_eq_getElem hjl⟩
   refine now_of (aop_next rfl rfl rfl hjl) ?_
   refine ifY ?_
   have hno : ¬ (isDig x = true ∧ u.length ≤ 4) → numD u = none := fun h => numD_not fun h2 => h ⟨h2.1.2 x (List.mem_of_getElem? hx), h2.2.1⟩
   have hsz : (bT u).size = u.length := rfl
   refine If.mk (fun h2 => ?_) (fun h2 => ?_)
   ·refine If.mk (fun h3 => ?_) (fun h3 => ?_)
    ·obtain ⟨hd, hdec⟩ := dec_dig hx (by omega) (by omega)
     obtain ⟨hg1, hg2⟩ := isDig_dg hd
     refine If.mk (fun h4 => ?_) (fun h4 => ?_)
     ·have hul2 : u.length ≤ 4 := by omega
      have hJ2 : ∀ (i : Nat) b, i < j + 1 → u[i]? = some b → isDig b = true := fun i b h h' => by
       rcases Nat.lt_or_ge i j with hi | hi
       ·exact hJ.1 i b hi h'
       ·obtain rfl : i = j := by omega
        rw [hx] at h'
        cases h'
        exact hd
      have hbd := numAt_pow (u := u) (j := j) hJ.1 hj
      have hbd2 : numAt u j < 10000 := Nat.lt_of_lt_of_le hbd (Nat.pow_le_pow_right (by decide) (show j ≤ 4 by omega))
      have hrune : (((Utf8.decode (bT u) j).1 : Nat) : Int) - 48 = ((dg x : Nat) : Int) := by
       rw [hdec]
       show ((x.toNat : Nat) : Int) - 48 = _
       omega
      have hw2 : IntKind.i64.wrap ((((Utf8.decode (bT u) j).1 : Nat) : Int) - 48) = ((dg x : Nat) : Int) := by
       rw [hrune]
       exact wrap_i64 (by omega) (by omega)
      have hgd : u.getD j 0 = x := by rw [List.getD_eq_getElem?_getD, hx]; rfl
      refine CallG.must (fun _ => ?_) (fun e => by cases e)
      refine Side.mk (fits64 (by omega)) ?_
      refine Side.mk (fits32 (by rw [hrune]; omega)) ?_
      refine Side.mk (fits64 (by rw [hw2]; omega)) ?_
      refine ⟨leb rfl, rfl, by omega, ⟨hJ2, fun _ => hul2⟩, ⟨wp rfl trivial, ⟨_, rfl, Weak.of_eq ?_, trivial⟩, wp rfl (ltb rfl), trivial⟩, ⟨⟨?_, ltb rfl⟩, trivial⟩, ⟨⟨_, rfl, trivial⟩, trivial⟩⟩
      ·refine congrArg n' ?_
       show _ = ((10 * numAt u j + dg (u.getD j 0) : Nat) : Int)
       rw [hw2, hgd]
       omega
      ·show some (Blk.iterS (bT u) (j + (Utf8.decode (bT u) j).2)) = _
       rw [hdec]
     ·refine CallG.must (fun e => by cases e) (fun _ => ?_)
      exact ⟨leb rfl, .inl (.inr ⟨_, rfl, rfl, hno fun h => by omega, rfl⟩)⟩
    ·refine CallG.must (fun e => by cases e) (fun _ => ?_)
     exact ⟨leb rfl, .inl (.inr ⟨_, rfl, rfl, hno fun h => by
      obtain ⟨h5, h6, h7⟩ := dig_dec hx h.1
      rw [h5] at h3
      omega, rfl⟩)⟩
   ·refine CallG.must (fun e => by cases e) (fun _ => ?_)
    exact ⟨leb rfl, .inl (.inr ⟨_, rfl, rfl, hno fun h => by
     obtain ⟨h5, h6, h7⟩ := dig_dec hx h.1
     rw [h5] at h2
     omega, rfl⟩)⟩
  ·obtain rfl : j = u.length := by omega
   refine now_of (aop_nextE rfl rfl rfl (Nat.lt_irrefl _)) ?_
   refine ifN ?_
   refine ⟨leb rfl, .inr ⟨[(0, X), (3, n' (numAt u u.length))], ⟨⟨_, rfl, Weak.of_eq hX.symm⟩, ⟨_, rfl, Weak.refl _ _⟩, trivial⟩, ?_⟩⟩
   by_cases hu0 : u = []
   ·refine gBin_neqX true hX (by subst hu0; exact str_eq.2 rfl) ?_
    rw [hX]
    refine CallG.must (fun e => by cases e) (fun _ => ?_)
    exact .inr ⟨_, rfl, rfl, numD_not fun h => h.1.1 hu0, rfl⟩
   ·have hul := hJ.2 (List.length_pos_iff.2 hu0)
    have hlt0 := numAt_pow (u := u) (j := u.length) hJ.1 (Nat.le_refl _)
    have hlt : numAt u u.length < 10000 := Nat.lt_of_lt_of_le hlt0 (Nat.pow_le_pow_right (by decide) hul)
    refine gBin_neqX false hX (Bool.eq_false_iff.2 fun h => hu0 (by
     have := congrArg ByteArray.size (str_eq.1 h)
     exact List.length_eq_zero_iff.1 this)) ?_
    rw [hX]
    obtain ⟨Y, hY⟩ : ∃ Y, Y = sA (bT (decN (numAt u u.length))) := ⟨_, rfl⟩
    have hit : ∀ H, ACall Tryz.prog 111 [n' (numAt u u.length : Nat)] H (.ret Y) H := fun H => by
     rw [hY]
     exact c_itoaN (by omega) H
    refine CallG.pure _ hit ?_
    by_cases hq : decN (numAt u u.length) = u
    ·refine gBin_eqlX true hY (str_eq.2 (congrArg bT hq)) ?_
     refine If.mk (fun h9 => ?_) (fun h9 => ?_)
     ·refine CallG.must (fun _ => ?_) (fun e => by cases e)
      exact .inl ⟨.inl rfl, _, ⟨numAt u u.length, if_pos ⟨⟨hu0, fun b hb => by
       obtain ⟨i, hi, rfl⟩ := List.getElem_of_mem hb
       exact hJ.1 i _ hi (List.getElem?_eq_getElem hi)⟩, hul, hq, by omega⟩, rfl⟩, FinG.mk _ rfl rfl rfl⟩
     ·refine CallG.must (fun e => by cases e) (fun _ => ?_)
      exact .inr ⟨_, rfl, rfl, numD_not fun h => by omega, rfl⟩
    ·refine gBin_eqlX false hY (Bool.eq_false_iff.2 fun h => hq (by
      exact congrArg (fun b : ByteArray => b.data.toList) (str_eq.1 h))) ?_
     refine CallG.must (fun e => by cases e) (fun _ => ?_)
     exact .inr ⟨_, rfl, rfl, numD_not fun h => hq h.2.2.1, rfl⟩
end Go.Vm

namespace Go.Vm
open Go.Proofs Go.RowKit
set_option maxRecDepth 100000 in
theorem idx_words {i : Nat} (hi : i < 24) : indexA Tryz.prog 120 (.agg (wordsB.map fun w => sA (bT w))) (n' (i : Nat)) = some (sA (bT (wordsB.getD i []))) := by
 have h : i = 0 ∨ i = 1 ∨ i = 2 ∨ i = 3 ∨ i = 4 ∨ i = 5 ∨ i = 6 ∨ i = 7 ∨ i = 8 ∨ i = 9 ∨ i = 10 ∨ i = 11 ∨ i = 12 ∨ i = 13 ∨ i = 14 ∨ i = 15 ∨ i = 16 ∨ i = 17 ∨ i = 18 ∨ i = 19 ∨ i = 20 ∨ i = 21 ∨ i = 22 ∨ i = 23 := by omega
 rcases h with rfl | rfl | rfl | rfl | rfl | rfl | rfl | rfl | rfl | rfl | rfl | rfl | rfl | rfl | rfl | rfl | rfl | rfl | rfl | rfl | rfl | rfl | rfl | rfl
 all_goals rfl
theorem under_wordsB (n : Nat) : (AV.agg (wordsB.map fun w => sA (bT w))).under n := unders_map (f := fun w => sA (bT w)) (fun _ => trivial) _
def headB (l : List UInt8) : List UInt8 := (spl 32 l).headD []
def restB (l : List UInt8) : List (List UInt8) := (spl 32 l).tail
theorem spl_cons (l : List UInt8) : spl 32 l = headB l :: restB l := by
 unfold headB restB
 cases h : spl 32 l with
 | nil => exact absurd h (spl_ne 32 l)
 | cons a t => rfl
def numV (u : List UInt8) : Int := (numAt u u.length : Nat)
def numsV (us : List (List UInt8)) : List Int := us.map numV
def partedOk (l : List UInt8) : Prop := headB l ∈ wordsB ∧ ∀ u ∈ restB l, ∃ n, numD u = some n
def wordI (l : List UInt8) : Nat := wordsB.idxOf (headB l)
theorem numsV_take {us : List (List UInt8)} {j : Nat} {u : List UInt8} (h : us[j]? = some u) : numsV (us.take (j + 1)) = numsV (us.take j) ++ [numV u] := by
 unfold numsV
 rw [List.take_add_one, h, List.map_append]; rfl
theorem numV_of {u : List UInt8} {n : Nat} (h : numD u = some n) : (n : Int) = numV u := by
 have := (numD_some h).2.2.2.2
 rw [this]; rfl
theorem rest_len {c : UInt8} : ∀ {l u : List UInt8}, u ∈ spl c l → u.length ≤ l.length
 | [], u, h => by
  have : u = [] := by simpa [spl] using h
  rw [this]; exact Nat.le_refl _
 | x :: l, u, h => by
  unfold spl at h
  split at h
  ·rcases List.mem_cons.1 h with rfl | h
   ·exact Nat.zero_le _
   ·exact Nat.le_succ_of_le (rest_len h)
  ·split at h
   ·rename_i e
    exact absurd e (spl_ne c l)
   ·rename_i a t e
    rcases List.mem_cons.1 h with rfl | h
    ·exact Nat.succ_le_succ (rest_len (by rw [e]; exact List.mem_cons_self ..))
    ·exact Nat.le_succ_of_le (rest_len (by rw [e]; exact List.mem_cons_of_mem _ h))
theorem restB_len (l : List UInt8) : (restB l).length ≤ l.length := by
 have h := spl_length 32 l
 rw [spl_cons, List.length_cons] at h
 have := List.count_le_length (a := (32 : UInt8)) (l := l)
 omega
theorem slice_tailS (a : List UInt8) (m : List (List UInt8)) : sliceA Tryz.prog 93 (eStrs ((a :: m).map bT)) (some 1) none none = some (eStrs (m.map bT)) := by
 have hu : Tryz.prog.underlying 93 = some (.slice 9) := by kernel_rfl
 have hs : tsz Tryz.prog 9 = some 1 := by kernel_rfl
 unfold sliceA eStrs
 simp only [hu, hs, Option.getD_some, Option.getD_none]
 rw [if_pos ⟨by simp, Nat.le_refl _, Nat.le_refl _, by simp, by simp, by omega⟩]
 simp
 exact List.take_of_length_le (by simp)
set_option maxHeartbeats 4000000 in
set_option maxRecDepth 100000 in
theorem c_parted {l : List UInt8} (hl : l.length ≤ 600) :
  (∃ v, (partedOk l ∧ v = .tup [n' (wordI l : Nat), eInts (numsV (restB l))]) ∧ ∀ H, ACall Tryz.prog 77 [sA (bT l)] H (.ret v) H) ∨ ∃ v, (¬ partedOk l ∧ ∃ k, v = whyD k) ∧ ∀ H, ACall Tryz.prog 77 [sA (bT l)] H (.pan v) H := by
 refine fn_ruleP (m := false) (fn := Tryz.f77) (c := (Tryz.f77.body).getD .skip) mixed (by kernel_rfl) (by kernel_rfl) (of_decide_eq_true (by kernel_rfl)) ⟨trivial, trivial⟩ (fun v h => ?_) (fun v h => ?_) ?_
 ·obtain ⟨_, rfl⟩ := h
  exact ⟨trivial, under_eInts _ _, trivial⟩
 ·obtain ⟨_, k, rfl⟩ := h
  exact rfl
 ·refine CallG.pure _ (c_split l 32 (by omega)) ?_
  refine CallG.pure _ (c_words24) ?_
  rw [spl_cons]
  have hrl := restB_len l
  refine LoopG.at (n0 := 0) rfl (loop_up mixed (m := false) (fun i => [(0, sA (bT l)), (4, eStrs ((headB l :: restB l).map bT)), (13, .agg (wordsB.map fun w => sA (bT w))), (14, n' (i : Nat))]) (fun _ => []) (fun i => ∀ j, j < i → wordsB.getD j [] ≠ headB l) 24 0 (leb rfl) (fun j h => absurd h (by omega)) ?_ trivial ?_)
  ·exact ⟨wp rfl trivial, ⟨_, rfl, Weak.refl _ _, under_eStrs _ _⟩, ⟨_, rfl, Weak.refl _ _, under_wordsB _⟩, wp rfl trivial, trivial⟩
  ·intro i hi hI
   refine If.mk (fun h1 => ?_) (fun h1 => ?_)
   ·refine ifY ?_
    refine ex_val _ (idx_words (i := i) (by omega)) ?_
    refine Ex.mk _ (jx_strs (r := 0) rfl rfl) ?_
    refine Ex.mk _ rfl ?_
    have hi24 : i < 24 := by omega
    by_cases he : wordsB.getD i [] = headB l
    ·have hb : (!(bT (wordsB.getD i [])).toList == (bT (headB l)).toList) = false := by
      rw [Bool.not_eq_false']
      exact str_eq.2 (congrArg bT he)
     refine IfB.mk (fun e => by rw [hb] at e; cases e) (fun _ => ?_)
     have hmem : headB l ∈ wordsB := by
      rw [← he, List.getD_eq_getElem?_getD, List.getElem?_eq_getElem (show i < wordsB.length from hi24)]
      exact List.getElem_mem _
     have hix : wordI l = i := by
      unfold wordI
      have hlt : wordsB.idxOf (headB l) < wordsB.length := List.idxOf_lt_length_iff.2 hmem
      have hge : wordsB.getD (wordsB.idxOf (headB l)) [] = headB l := by
       rw [List.getD_eq_getElem?_getD, List.getElem?_eq_getElem hlt]
       exact List.getElem_idxOf hlt
      rcases Nat.lt_trichotomy (wordsB.idxOf (headB l)) i with h | h | h
      ·exact absurd hge (hI _ h)
      ·exact h
      ·have hi' : i < wordsB.length := hi24
       have := List.not_of_lt_findIdx (p := (· == headB l)) (xs := wordsB) (i := i) h
       rw [List.getD_eq_getElem?_getD, List.getElem?_eq_getElem hi'] at he
       simp only [Option.getD_some] at he
       rw [he] at this
       simp at this
     refine Ex.mk _ (aop_slice (a := eStrs ((headB l :: restB l).map bT)) (l := some 1) (h := none) rfl rfl rfl rfl rfl rfl (slice_tailS (headB l) (restB l))) ?_
     refine LoopG.ghost (LoopG.at (n0 := 1) rfl (loop_up mixed (m := false) (fun j => [(0, sA (bT l)), (5, n' (i : Nat)), (7, .sl j ((numsV ((restB l).take j)).map n') (.own 0 j 1)), (24, eStrs ((restB l).map bT)), (25, n' ((restB l).length : Nat)), (26, n' (j : Nat))]) (fun j => [(0, .row j)]) (fun j => ∀ u ∈ (restB l).take j, ∃ n, numD u = some n) (restB l).length 0 (leb rfl) (fun u h => by simp at h) ?_ ?_ ?_))
     ·exact ⟨wp rfl trivial, wp rfl trivial, ⟨_, rfl, Weak.own (r := 0) (g := 0) 1 rfl, ⟨unders_map (f := n') (fun _ => trivial) _, ltb rfl⟩⟩, ⟨_, rfl, Weak.refl _ _, under_eStrs _ _⟩, ⟨_, rfl, Weak.of_eq (congrArg n' (by simp)), trivial⟩, wp rfl trivial, trivial⟩
     ·exact ⟨bk rfl rfl, trivial⟩
     ·intro j hj hJ
      refine If.mk (fun h2 => ?_) (fun h2 => ?_)
      ·refine ifY ?_
       have hj' : j < (restB l).length := by omega
       obtain ⟨u, hx, etk, hm⟩ := at_some (l := restB l) (r := j) hj'
       refine Ex.mk _ (jx_strs (l := (restB l).map bT) (r := j) (x := bT u) rfl (by rw [List.getElem?_map, hx]; rfl)) ?_
       refine Ex.mk _ rfl ?_
       have hul : u.length ≤ 600 := Nat.le_trans (rest_len (l := l) (by rw [spl_cons]; exact List.mem_cons_of_mem _ hm)) hl
       rcases c_number hul with ⟨v, ⟨n, hn, rfl⟩, hc⟩ | ⟨v, ⟨hn, rfl⟩, hc⟩
       ·refine CallG.pure _ hc ?_
        refine ex_app _ _ (app_int (by rw [List.length_map, numsV, List.length_map, List.length_take]; omega) (by omega) rfl) ?_
        refine Side.mk (fits64 (by omega)) ?_
        refine ⟨leb rfl, rfl, hj', fun u' h' => ?_, ⟨wp rfl trivial, wp rfl trivial, ⟨_, rfl, Weak.of_eq ?_, ⟨unders_map (f := n') (fun _ => trivial) _, ltb rfl⟩⟩, ⟨_, rfl, Weak.refl _ _, under_eStrs _ _⟩, wp rfl trivial, ⟨_, rfl, Weak.of_eq (congrArg n' (by omega)), trivial⟩, trivial⟩, ⟨bk rfl rfl, trivial⟩, ⟨⟨_, rfl, trivial⟩, trivial⟩⟩
        ·rw [etk] at h'
         rcases List.mem_append.1 h' with h' | h'
         ·exact hJ u' h'
         ·rw [List.mem_singleton.1 h']
          exact ⟨n, hn⟩
        ·rw [numsV_take hx, List.map_append, ← numV_of hn]; rfl
       ·refine CallG.pan _ hc ?_
        exact ⟨leb rfl, leb rfl, .inr ⟨_, rfl, rfl, (fun h => by
         obtain ⟨n, h9⟩ := h.2 u hm
         rw [hn] at h9; cases h9), _, rfl⟩⟩
      ·refine ifN ?_
       obtain rfl : j = (restB l).length := by omega
       rw [List.take_length] at hJ
       rw [List.take_length]
       refine ⟨leb rfl, leb rfl, .inl ⟨.inl rfl, _, ⟨⟨hmem, hJ⟩, rfl⟩, FinG.mk _ rfl rfl ?_⟩⟩
       rw [hix]
       show AV.tup [n' (i : Nat), AV.sl (restB l).length (AV.freezes _ ((numsV (restB l)).map n')) .unk] = _
       rw [freezes_ints]
       unfold eInts
       rw [show (numsV (restB l)).length = (restB l).length from List.length_map _]
    ·have hb : (!(bT (wordsB.getD i [])).toList == (bT (headB l)).toList) = true := by
      rw [Bool.not_eq_true', Bool.eq_false_iff]
      exact fun h => he (congrArg (fun b : ByteArray => b.data.toList) (str_eq.1 h))
     refine IfB.mk (fun _ => ?_) (fun e => by rw [hb] at e; cases e)
     refine Side.mk (fits64 (by omega)) ?_
     refine ⟨leb rfl, rfl, by omega, fun j hj => ?_, ⟨wp rfl trivial, ⟨_, rfl, Weak.refl _ _, under_eStrs _ _⟩, ⟨_, rfl, Weak.refl _ _, under_wordsB _⟩, ⟨_, rfl, Weak.of_eq (congrArg n' (by omega)), trivial⟩, trivial⟩, trivial, trivial⟩
     rcases Nat.lt_or_ge j i with h | h
     ·exact hI j h
     ·obtain rfl : i = j := by omega
      exact he
   ·refine ifN ?_
    refine ⟨leb rfl, .inr ⟨_, rfl, rfl, fun h => ?_, _, rfl⟩⟩
    obtain ⟨j, hj, e⟩ := List.getElem_of_mem h.1
    have hj24 : j < 24 := hj
    refine hI j (by omega) ?_
    rw [List.getD_eq_getElem?_getD, List.getElem?_eq_getElem hj]
    exact e
end Go.Vm

namespace Go.Vm
open Go.Proofs Go.RowKit
def entryE (l : List UInt8) : EntryD := (1 + (wordI l : Nat), numsV (restB l))
def entryOk (l : List UInt8) : Prop := partedOk l ∧ formedI (entryE l)
theorem numsV_len (us : List (List UInt8)) : (numsV us).length = us.length := List.length_map _
theorem wordI_lt {l : List UInt8} (h : partedOk l) : wordI l < 24 := List.idxOf_lt_length_iff.2 h.1
set_option maxHeartbeats 4000000 in
set_option maxRecDepth 100000 in
theorem c_entry {l : List UInt8} (hl : l.length ≤ 600) :
  (∃ v, (entryOk l ∧ v = eEntry (entryE l)) ∧ ∀ H, ACall Tryz.prog 32 [sA (bT l)] H (.ret v) H) ∨ ∃ v, (¬ entryOk l ∧ ∃ k, v = whyD k) ∧ ∀ H, ACall Tryz.prog 32 [sA (bT l)] H (.pan v) H := by
 refine fn_ruleP (m := false) (fn := Tryz.f32) (c := (Tryz.f32.body).getD .skip) mixed (by kernel_rfl) (by kernel_rfl) (of_decide_eq_true (by kernel_rfl)) ⟨trivial, trivial⟩ (fun v h => ?_) (fun v h => ?_) ?_
 ·obtain ⟨_, rfl⟩ := h
  exact under_eEntry _ _
 ·obtain ⟨_, k, rfl⟩ := h
  exact rfl
 ·have hrl := restB_len l
  rcases c_parted hl with ⟨v, ⟨hp, rfl⟩, hc⟩ | ⟨v, ⟨hp, k, rfl⟩, hc⟩
  ·refine CallG.pure _ hc ?_
   have hw := wordI_lt hp
   refine Side.mk (fits64 (by omega)) ?_
   refine If.mk (fun h1 => ?_) (fun h1 => ?_)
   ·refine CallG.bool (c_isFormed (entryE l) (by show (numsV (restB l)).length < _; rw [numsV_len]; omega)) (fun h => ?_) (fun h => ?_)
    ·refine CallG.must (fun _ => ?_) (fun e => by cases e)
     refine .inl ⟨.inl rfl, _, ⟨⟨hp, h⟩, rfl⟩, FinG.mk _ rfl rfl ?_⟩
     show AV.agg [n' _, AV.freeze _ (eInts _)] = _
     rw [freeze_eInts]; rfl
    ·refine CallG.must (fun e => by cases e) (fun _ => ?_)
     exact .inr ⟨_, rfl, rfl, fun hF => h hF.2, _, rfl⟩
   ·refine CallG.must (fun e => by cases e) (fun _ => ?_)
    exact .inr ⟨_, rfl, rfl, (fun hF => by
     have := (formed_kind hF.2).2
     have h' : 1 + (wordI l : Int) ≤ 11 := this
     omega), _, rfl⟩
  ·refine CallG.pan _ hc ?_
   exact .inr ⟨_, rfl, rfl, fun hF => hp hF.1, k, rfl⟩
def zeroE : AV := .agg [n' 0, .lit (.slice none 0 0)]
open Classical in
noncomputable def parseV (l : List UInt8) : AV := if 40 < l.length then .tup [zeroE, n' 3] else if entryOk l then .tup [eEntry (entryE l), n' 0] else .tup [zeroE, n' 4]
set_option maxHeartbeats 4000000 in
set_option maxRecDepth 100000 in
theorem c_Parse {l : List UInt8} (hl : l.length ≤ 600) (H : List Blk) : ACall Tryz.prog 12 [sA (bT l)] H (.ret (parseV l)) H := by
 refine fn_rule (m := false) (fn := Tryz.f12) (c := (Tryz.f12.body).getD .skip) mixed (by kernel_rfl) (by kernel_rfl) (of_decide_eq_true (by kernel_rfl)) ?_ ?_ ?_ H
 ·exact ⟨trivial, trivial⟩
 ·unfold parseV
  split
  ·exact ⟨⟨trivial, trivial, trivial⟩, trivial, trivial⟩
  ·split
   ·exact ⟨under_eEntry _ _, trivial, trivial⟩
   ·exact ⟨⟨trivial, trivial, trivial⟩, trivial, trivial⟩
 ·have hsz : (bT l).size = l.length := rfl
  refine If.mk (fun h1 => ?_) (fun h1 => ?_)
  ·refine ifY ?_
   have e : parseV l = .tup [zeroE, n' 3] := if_pos (by omega)
   rw [e]
   exact ⟨.inl rfl, FinG.mk _ rfl rfl rfl⟩
  ·refine ifN ?_
   refine CallG.deferred dGoes_ok rfl (by decide) ?_
   refine ⟨rfl, _, rfl, by decide, ?_⟩
   refine CallG.inlineP (m := false) (fn := Tryz.f31) (c := (Tryz.f31.body).getD .skip) mixed (by kernel_rfl) (by kernel_rfl) (of_decide_eq_true (by kernel_rfl)) ?_
   rcases c_entry hl with ⟨v, ⟨hp, rfl⟩, hc⟩ | ⟨v, ⟨hp, k, rfl⟩, hc⟩
   ·refine CallG.pure _ hc ?_
    refine .inl ⟨.inr rfl, _, rfl, rfl, ?_⟩
    refine ifN ?_
    refine ⟨_, rfl, ?_⟩
    refine ifN ?_
    have e : parseV l = .tup [eEntry (entryE l), n' 0] := by
     unfold parseV
     rw [if_neg (by omega), if_pos hp]
    rw [e]
    refine ⟨.inl rfl, FinG.mk _ rfl rfl ?_⟩
    show AV.tup [AV.agg [n' _, AV.freeze _ (eInts _)], n' 0] = _
    rw [freeze_eInts]; rfl
   ·refine CallG.pan _ hc ?_
    refine .inr ⟨_, rfl, rfl, ?_⟩
    refine ifY ?_
    refine ifN ?_
    refine ⟨_, rfl, ?_⟩
    refine ifY ?_
    have e : parseV l = .tup [zeroE, n' 4] := by
     unfold parseV
     rw [if_neg (by omega), if_neg hp]
    rw [e]
    exact ⟨.inl rfl, FinG.mk _ rfl rfl rfl⟩
end Go.Vm

namespace Go.Vm
open Go.Proofs Go.RowKit
theorem fits8 {n : Int} (h : 0 ≤ n ∧ n < 256) : fitsK .u8 n := fitsU8 h
def NumR (u : List UInt8) (n : Int) (is : Bool) : Prop := (-10000 ≤ n ∧ n ≤ 10000) ∧ (is = true → 0 ≤ n → n ≤ 1000 → numD u = some n.toNat) ∧ ∀ k, numD u = some k → n = k ∧ is = true
theorem NumR.no {u : List UInt8} (h : numD u = none) : NumR u 0 false := ⟨⟨by decide, by decide⟩, fun e => by (cases e), fun k hk => by rw [h] at hk; cases hk⟩
theorem numD_no {u : List UInt8} {x : UInt8} (hx : x ∈ u) (h : isDig x ≠ true) : numD u = none := by
 cases hn : numD u with
 | none => rfl
 | some k => exact absurd ((numD_some hn).1.2 x hx) h
theorem numD_long {u : List UInt8} (h : 4 < u.length) : numD u = none := by
 cases hn : numD u with
 | none => rfl
 | some k =>
  have := (numD_some hn).2.1
  omega
theorem numD_nil : numD [] = none := by
 cases hn : numD [] with
 | none => rfl
 | some k => exact absurd rfl (numD_some hn).1.1
theorem NumR.pos {u : List UInt8} {n : Nat} {b : Bool} (hn : n < 10000) (hu : n = numAt u u.length) (hd : u ≠ [] ∧ ∀ b ∈ u, isDig b = true) (hl : u.length ≤ 4) (hb : ((bT (decN n)).toList == (bT u).toList) = b) : NumR u n b := by
 refine ⟨⟨by omega, by omega⟩, fun e _ h9 => ?_, fun k hk => ?_⟩
 ·subst hb
  rw [Int.toNat_natCast]
  have he : decN n = u := congrArg (fun b : ByteArray => b.data.toList) (sA_inj e)
  subst hu
  exact if_pos ⟨hd, hl, he, by omega⟩
 ·obtain ⟨_, _, h3, _, h5⟩ := numD_some hk
  have e : n = k := hu.trans h5.symm
  subst e
  refine ⟨rfl, ?_⟩
  rw [← hb]
  exact str_eq.2 (congrArg bT h3)
theorem NumR.neg {u t : List UInt8} {n : Nat} {b : Bool} (hn : n < 10000) (hu : u = 45 :: t) (hb : ((bT (decNM n)).toList == (bT u).toList) = b) : NumR u (-(n : Int)) b := by
 have h0 : numD u = none := numD_no (x := 45) (by rw [hu]; exact List.mem_cons_self) (by decide)
 refine ⟨⟨by omega, by omega⟩, fun e h _ => ?_, fun k hk => by rw [h0] at hk; cases hk⟩
 subst hb
 obtain rfl : n = 0 := by omega
 have h1 : decNM 0 = u := congrArg (fun b : ByteArray => b.data.toList) (sA_inj e)
 rw [hu] at h1
 have h3 : (48 : UInt8) = 45 := (List.cons.inj h1).1
 cases h3
set_option maxHeartbeats 4000000 in
set_option maxRecDepth 100000 in
theorem c_number2 {u : List UInt8} (hl : u.length ≤ 600) : ∃ n is, NumR u n is ∧ ∀ H, ACall Tryz.prog 139 [sA (bT u), n' 4] H (.ret (.tup [n' n, .lit (.bool is)])) H := by
 have key := fn_ruleP (P := Tryz.prog) (f := 139) (args := [sA (bT u), n' 4]) (R := fun v => ∃ n is, NumR u n is ∧ v = .tup [n' n, .lit (.bool is)]) (R' := fun _ => False) (m := false) (fn := Tryz.f139) (c := (Tryz.f139.body).getD .skip) mixed (by kernel_rfl) (by kernel_rfl) (of_decide_eq_true (by kernel_rfl)) ⟨trivial, trivial, trivial⟩
  (fun v h => by obtain ⟨n, is, _, rfl⟩ := h; exact ⟨trivial, trivial, trivial⟩) (fun v h => h.elim) ?_
 ·rcases key with ⟨v, ⟨n, is, h, rfl⟩, hc⟩ | ⟨_, h, _⟩
  ·exact ⟨n, is, h, hc⟩
  ·exact h.elim
 ·have hsz : (bT u).size = u.length := rfl
  refine If.mk (fun h0 => ?_) (fun h0 => ?_)
  ·obtain ⟨x, t, rfl⟩ : ∃ x t, u = x :: t := by
    cases u with
    | nil => exact absurd h0 (by show ¬ (0 : Int) < ((0 : Nat) : Int); omega)
    | cons x t => exact ⟨x, t, rfl⟩
   refine ex_val _ (idx_bT (l := x :: t) (r := 0) (x := x) rfl rfl) ?_
   refine If.mk (fun h1 => ?_) (fun h1 => ?_)
   ·obtain rfl : x = 45 := UInt8.toNat_inj.1 (Int.ofNat_inj.1 h1)
    refine ifY ?_
    refine Ex.mk _ (aop_slice (a := sA (bT (45 :: t))) (l := some 1) (h := none) rfl rfl (nat_of rfl) rfl rfl rfl (show sliceA Tryz.prog 9 (sA (bT (45 :: t))) (some 1) none none = some (sA (bT t)) from slice_bT2 (l := 45 :: t) (a := 1) (Nat.succ_le_succ (Nat.zero_le _)))) ?_
    have hnil : t = [] → numD (45 :: t) = none := fun e => by rw [e]; exact numD_no (x := 45) (by simp) (by decide)
    have hsub : t.length ≤ (45 :: t).length := Nat.le_succ _
    have hmem : ∀ y ∈ t, y ∈ (45 : UInt8) :: t := fun y hy => List.mem_cons_of_mem _ hy
    have hszs : (bT t).size = List.length t := rfl
    refine If.mk (fun h2 => ?_) (fun h2 => ?_)
    ·refine ifY ?_
     exact .inl ⟨.inl rfl, _, ⟨_, _, NumR.no (hnil (List.length_eq_zero_iff.1 (by omega))), rfl⟩, FinG.mk _ rfl rfl rfl⟩
    ·refine If.mk (fun h3 => ?_) (fun h3 => ?_)
     ·refine ifY ?_
      exact .inl ⟨.inl rfl, _, ⟨_, _, NumR.no (numD_long (by have := hsub; omega)), rfl⟩, FinG.mk _ rfl rfl rfl⟩
     ·refine ifN ?_
      have hl2 : List.length t ≤ 4 := by omega
      refine LoopG.at (n0 := 4) rfl (loop_up mixed (m := false) (fun i => [(0, sA (bT (45 :: t))), (6, n' (-1)), (7, sA (bT t)), (8, n' (numAt t i)), (9, n' i)]) (fun _ => []) (fun i => ∀ (j : Nat) b, j < i → (t)[j]? = some b → isDig b = true) (List.length t) 4 (leb rfl) (fun j b h => by omega) ?_ trivial ?_)
      ·exact ⟨wp rfl trivial, wp rfl trivial, wp rfl trivial, wp rfl trivial, wp rfl trivial, trivial⟩
      ·intro i hi hI
       refine If.mk (fun h4 => ?_) (fun h4 => ?_)
       ·refine ifY ?_
        obtain ⟨y, hy⟩ : ∃ y, (t)[i]? = some y := ⟨_, List.getElem?_eq_getElem (by omega)⟩
        have hno : isDig y ≠ true → numD (45 :: t) = none := fun h => numD_no (hmem y (List.mem_of_getElem? hy)) h
        have hd : ∀ (p q : Prop), (isDig y = true → p) → (p → q → False) → q → isDig y ≠ true := fun p q h1 h2 h3 h4 => h2 (h1 h4) h3
        refine ex_val _ (idx_bT rfl hy) ?_
        refine If.mk (fun h5 => ?_) (fun h5 => ?_)
        ·refine ifY ?_
         exact ⟨leb rfl, .inl ⟨.inl rfl, _, ⟨_, _, NumR.no (hno fun h => by have := (isDig_dg h).2; omega), rfl⟩, FinG.mk _ rfl rfl rfl⟩⟩
        ·refine ex_val _ (idx_bT rfl hy) ?_
         refine If.mk (fun h6 => ?_) (fun h6 => ?_)
         ·refine ifY ?_
          exact ⟨leb rfl, .inl ⟨.inl rfl, _, ⟨_, _, NumR.no (hno fun h => by have := isDig_dg h; omega), rfl⟩, FinG.mk _ rfl rfl rfl⟩⟩
         ·refine ifN ?_
          have hdig : isDig y = true := by
           unfold isDig
           simp only [Bool.and_eq_true, decide_eq_true_eq]
           omega
          obtain ⟨hg1, hg2⟩ := isDig_dg hdig
          have hbd : numAt t i < 10000 := Nat.lt_of_lt_of_le (numAt_pow (u := t) hI (by omega)) (Nat.pow_le_pow_right (by decide) (show i ≤ 4 by omega))
          have hw2 := dig_val hdig
          have hgd : List.getD t i 0 = y := by rw [List.getD_eq_getElem?_getD, hy]; rfl
          refine Side.mk (fits64 (by omega)) ?_
          refine ex_val _ (idx_bT rfl hy) ?_
          refine Side.mk (fits8 (by omega)) ?_
          refine Side.mk (fits64 (by rw [hw2]; omega)) ?_
          refine Side.mk (fits64 (by omega)) ?_
          refine ⟨leb rfl, rfl, by omega, fun j b hj hb => ?_, ⟨wp rfl trivial, wp rfl trivial, wp rfl trivial, ⟨_, rfl, Weak.of_eq (?_), trivial⟩, wp rfl trivial, trivial⟩, trivial, trivial⟩
          ·rcases Nat.lt_or_ge j i with h | h
           ·exact hI j b h hb
           ·obtain rfl : j = i := by omega
            rw [hy] at hb
            cases hb
            exact hdig
          ·refine congrArg n' ?_
           show _ = ((10 * numAt t i + dg (List.getD t i 0) : Nat) : Int)
           rw [hw2, hgd]
           omega
       ·refine ifN ?_
        obtain rfl : i = List.length t := by omega
        refine ⟨leb rfl, ?_⟩
        have hlt : numAt t (List.length t) < 10000 := Nat.lt_of_lt_of_le (numAt_pow (u := t) hI (Nat.le_refl _)) (Nat.pow_le_pow_right (by decide) hl2)
        generalize hN : numAt t (List.length t) = N at hlt
        have hq : (-1) * (N : Int) = -(N : Int) := by omega
        refine Side.mk (fits64 (by omega)) ?_
        refine Side.mk (fits64 (by omega)) ?_
        rw [hq]
        refine CallG.pure _ (c_decM _ hlt) ?_
        exact .inl ⟨.inl rfl, _, ⟨_, _, NumR.neg hlt rfl rfl, rfl⟩, FinG.mk _ rfl rfl rfl⟩
   ·refine ifN ?_
    have hnil : x :: t = [] → numD (x :: t) = none := fun e => by cases e
    have hsub : (x :: t).length ≤ (x :: t).length := Nat.le_refl _
    have hmem : ∀ y ∈ x :: t, y ∈ x :: t := fun y hy => hy
    have hszs : (bT (x :: t)).size = List.length (x :: t) := rfl
    refine If.mk (fun h2 => ?_) (fun h2 => ?_)
    ·refine ifY ?_
     exact .inl ⟨.inl rfl, _, ⟨_, _, NumR.no (hnil (List.length_eq_zero_iff.1 (by omega))), rfl⟩, FinG.mk _ rfl rfl rfl⟩
    ·refine If.mk (fun h3 => ?_) (fun h3 => ?_)
     ·refine ifY ?_
      exact .inl ⟨.inl rfl, _, ⟨_, _, NumR.no (numD_long (by have := hsub; omega)), rfl⟩, FinG.mk _ rfl rfl rfl⟩
     ·refine ifN ?_
      have hl2 : List.length (x :: t) ≤ 4 := by omega
      refine LoopG.at (n0 := 0) rfl (loop_up mixed (m := false) (fun i => [(0, sA (bT (x :: t))), (6, n' (1)), (7, sA (bT (x :: t))), (8, n' (numAt (x :: t) i)), (9, n' i)]) (fun _ => []) (fun i => ∀ (j : Nat) b, j < i → ((x :: t))[j]? = some b → isDig b = true) (List.length (x :: t)) 0 (leb rfl) (fun j b h => by omega) ?_ trivial ?_)
      ·exact ⟨wp rfl trivial, wp rfl trivial, wp rfl trivial, wp rfl trivial, wp rfl trivial, trivial⟩
      ·intro i hi hI
       refine If.mk (fun h4 => ?_) (fun h4 => ?_)
       ·refine ifY ?_
        obtain ⟨y, hy⟩ : ∃ y, ((x :: t))[i]? = some y := ⟨_, List.getElem?_eq_getElem (by omega)⟩
        have hno : isDig y ≠ true → numD (x :: t) = none := fun h => numD_no (hmem y (List.mem_of_getElem? hy)) h
        have hd : ∀ (p q : Prop), (isDig y = true → p) → (p → q → False) → q → isDig y ≠ true := fun p q h1 h2 h3 h4 => h2 (h1 h4) h3
        refine ex_val _ (idx_bT rfl hy) ?_
        refine If.mk (fun h5 => ?_) (fun h5 => ?_)
        ·refine ifY ?_
         exact ⟨leb rfl, .inl ⟨.inl rfl, _, ⟨_, _, NumR.no (hno fun h => by have := (isDig_dg h).2; omega), rfl⟩, FinG.mk _ rfl rfl rfl⟩⟩
        ·refine ex_val _ (idx_bT rfl hy) ?_
         refine If.mk (fun h6 => ?_) (fun h6 => ?_)
         ·refine ifY ?_
          exact ⟨leb rfl, .inl ⟨.inl rfl, _, ⟨_, _, NumR.no (hno fun h => by have := isDig_dg h; omega), rfl⟩, FinG.mk _ rfl rfl rfl⟩⟩
         ·refine ifN ?_
          have hdig : isDig y = true := by
           unfold isDig
           simp only [Bool.and_eq_true, decide_eq_true_eq]
           omega
          obtain ⟨hg1, hg2⟩ := isDig_dg hdig
          have hbd : numAt (x :: t) i < 10000 := Nat.lt_of_lt_of_le (numAt_pow (u := x :: t) hI (by omega)) (Nat.pow_le_pow_right (by decide) (show i ≤ 4 by omega))
          have hw2 := dig_val hdig
          have hgd : List.getD (x :: t) i 0 = y := by rw [List.getD_eq_getElem?_getD, hy]; rfl
          refine Side.mk (fits64 (by omega)) ?_
          refine ex_val _ (idx_bT rfl hy) ?_
          refine Side.mk (fits8 (by omega)) ?_
          refine Side.mk (fits64 (by rw [hw2]; omega)) ?_
          refine Side.mk (fits64 (by omega)) ?_
          refine ⟨leb rfl, rfl, by omega, fun j b hj hb => ?_, ⟨wp rfl trivial, wp rfl trivial, wp rfl trivial, ⟨_, rfl, Weak.of_eq (?_), trivial⟩, wp rfl trivial, trivial⟩, trivial, trivial⟩
          ·rcases Nat.lt_or_ge j i with h | h
           ·exact hI j b h hb
           ·obtain rfl : j = i := by omega
            rw [hy] at hb
            cases hb
            exact hdig
          ·refine congrArg n' ?_
           show _ = ((10 * numAt (x :: t) i + dg (List.getD (x :: t) i 0) : Nat) : Int)
           rw [hw2, hgd]
           omega
       ·refine ifN ?_
        obtain rfl : i = List.length (x :: t) := by omega
        refine ⟨leb rfl, ?_⟩
        have hlt : numAt (x :: t) (List.length (x :: t)) < 10000 := Nat.lt_of_lt_of_le (numAt_pow (u := x :: t) hI (Nat.le_refl _)) (Nat.pow_le_pow_right (by decide) hl2)
        have hall : ∀ b ∈ x :: t, isDig b = true := fun b hb => by
         obtain ⟨j, hj, rfl⟩ := List.getElem_of_mem hb
         exact hI j _ hj (List.getElem?_eq_getElem hj)
        generalize hN : numAt (x :: t) (List.length (x :: t)) = N at hlt
        have hq : (1) * (N : Int) = (N : Int) := by omega
        refine Side.mk (fits64 (by omega)) ?_
        refine Side.mk (fits64 (by omega)) ?_
        rw [hq]
        refine CallG.pure _ (c_dec _ hlt) ?_
        exact .inl ⟨.inl rfl, _, ⟨_, _, NumR.pos hlt hN.symm ⟨by simp, hall⟩ hl2 rfl, rfl⟩, FinG.mk _ rfl rfl rfl⟩
  ·have : u = [] := List.length_eq_zero_iff.1 (by omega)
   subst this
   refine ifN ?_
   refine If.mk (fun _ => ?_) (fun h => absurd (by decide) h)
   refine ifY ?_
   exact .inl ⟨.inl rfl, _, ⟨_, _, NumR.no numD_nil, rfl⟩, FinG.mk _ rfl rfl rfl⟩
end Go.Vm
