/-
  Contracts of functions of the program that this claim reaches; no statement of the program is proved here. Conditions: none. (Texts of books, written.)
-/
import Derived.Test.YtdhdaadoehbopaaGreatDoorVc
import Derived.KernelRfl
import Derived.Test.YtdhdaadoehbopaaGreatDoorCa
import Derived.Test.YtdhdaadoehbopaaGreatDoorCo
import Derived.Test.YtdhdaadoehbopaaGreatDoorCs
import Derived.Test.YtdhdaadoehbopaaGreatDoorCp

namespace Go.Vm
open Go.Proofs
def decS (n : Nat) : ByteArray := if n < 10 then ⟨#[UInt8.ofNat (48 + n)]⟩ else ⟨#[UInt8.ofNat (48 + n / 10), UInt8.ofNat (48 + n % 10)]⟩
def sA (s : ByteArray) : AV := .lit (.string s)
theorem itoa_all : ((List.range 100).all fun k => topB kK 183 [n' (k : Int)] (sA (decS k))) = true := by kernel_rfl
theorem decimal_all : ((List.range 100).all fun k => topB kK 189 [n' (k : Int)] (sA (decS k))) = true := by kernel_rfl
theorem c_itoa {k : Nat} (hk : k < 100) (H : List Blk) : ACall Tryz.prog 183 [n' (k : Int)] H (.ret (sA (decS k))) H :=
 top_right mixed kK_right (List.all_eq_true.1 itoa_all k (List.mem_range.2 hk)) H
theorem c_decimal {k : Nat} (hk : k < 100) (H : List Blk) : ACall Tryz.prog 189 [n' (k : Int)] H (.ret (sA (decS k))) H :=
 top_right mixed kK_right (List.all_eq_true.1 decimal_all k (List.mem_range.2 hk)) H
end Go.Vm

namespace Go.Vm
open Go.Proofs
theorem bin_add {P : Program} {a b : ByteArray} {t : TypeId} (h : a.size + b.size ≤ 1073741824) : binB P .add t (.lit (.string a)) (.lit (.string b)) = some (sA (a ++ b)) := by
 unfold binB binA
 simp only [binLit, binStr]
 rw [if_pos h]
 rfl
def lineS (w : ByteArray) (l : List Nat) : ByteArray := l.foldl (fun s n => s ++ ⟨#[32]⟩ ++ decS n) w
theorem lineS_snoc (w : ByteArray) (l : List Nat) (n : Nat) : lineS w (l ++ [n]) = lineS w l ++ ⟨#[32]⟩ ++ decS n := by
 unfold lineS
 rw [List.foldl_append]; rfl
theorem decS_size (n : Nat) : (decS n).size ≤ 2 := by
 unfold decS
 split
 ·exact (by decide : (1 : Nat) ≤ 2)
 ·exact (by decide : (2 : Nat) ≤ 2)
theorem lineS_size (l : List Nat) : ∀ w : ByteArray, (lineS w l).size ≤ w.size + 3 * l.length := by
 induction l with
 | nil => exact fun w => Nat.le_refl _
 | cons x l ih =>
  intro w
  have := ih (w ++ ⟨#[32]⟩ ++ decS x)
  have h2 := decS_size x
  rw [ByteArray.size_append, ByteArray.size_append] at this
  have e : (⟨#[32]⟩ : ByteArray).size = 1 := rfl
  show (lineS (w ++ ⟨#[32]⟩ ++ decS x) l).size ≤ _
  rw [List.length_cons]
  omega
theorem take_snocB {α : Type} {U : List α} {r : Nat} {x : α} (h : U[r]? = some x) : U.take (r + 1) = U.take r ++ [x] := by
 rw [List.take_add_one, h]
 rfl
theorem now_of {α : Type} {x : Option α} {K : α → Prop} {r : α} (h : x = some r) (k : K r) : NowR x K := by
 subst h; exact k
set_option maxRecDepth 100000 in
theorem c_rowR (w : ByteArray) (l : List Nat) (h : ∀ x ∈ l, x < 100) (hl : w.size + 3 * l.length ≤ 1000000) (H : List Blk) : ACall Tryz.prog 143 [sA w, eInts (cuesI l)] H (.ret (sA (lineS w l))) H := by
 refine fn_rule (m := false) (fn := Tryz.f143) (c := (Tryz.f143.body).getD .skip) mixed (by kernel_rfl) (by kernel_rfl) (of_decide_eq_true (by kernel_rfl)) ?_ ?_ ?_ H
 ·exact ⟨trivial, under_eInts 0 _, trivial⟩
 ·trivial
 ·have hcl := cuesI_length l
  refine LoopG.at (n0 := 0) rfl (loop_up mixed (m := false) (fun r => [(0, sA (lineS w (l.take r))), (1, eInts (cuesI l)), (5, n' r)]) (fun _ => []) (fun _ => True) l.length 0 (Nat.zero_le _) trivial ?_ trivial ?_)
  ·exact ⟨wp rfl trivial, ⟨_, rfl, Weak.refl _ _, under_eInts _ _⟩, wp rfl trivial, trivial⟩
  ·intro r hr _
   refine If.mk (fun h1 => ?_) (fun h1 => ?_)
   ·refine ifY ?_
    have hr' : r < l.length := by omega
    obtain ⟨x, hx⟩ : ∃ x, l[r]? = some x := ⟨_, List.getElem?_eq_getElem hr'⟩
    have hxi : (cuesI l)[r]? = some (x : Int) := by unfold cuesI; rw [List.getElem?_map, hx]; rfl
    have hsz := lineS_size (l.take r) w
    rw [List.length_take] at hsz
    have e1 : (⟨#[32]⟩ : ByteArray).size = 1 := rfl
    have hd := decS_size x
    refine now_of (bin_add (by omega)) ?_
    refine Ex.mk _ (jx_ints (r := r) rfl hxi) ?_
    refine Ex.mk _ rfl ?_
    refine CallG.pure _ (c_decimal (h x (List.mem_of_getElem? hx))) ?_
    refine now_of (bin_add (by rw [ByteArray.size_append]; omega)) ?_
    refine Side.mk (fits64 (by omega)) ?_
    exact ⟨leb rfl, rfl, by omega, trivial, ⟨⟨_, rfl, Weak.of_eq (by rw [take_snocB hx, lineS_snoc]), trivial⟩, ⟨_, rfl, Weak.refl _ _, under_eInts _ _⟩, wp rfl trivial, trivial⟩, trivial, trivial⟩
   ·refine ifN ?_
    refine ⟨leb rfl, ?_⟩
    obtain rfl : r = l.length := by omega
    rw [List.take_length]
    exact ⟨.inl rfl, FinG.mk _ rfl rfl rfl⟩
set_option maxRecDepth 100000 in
theorem c_joined (w : ByteArray) (l : List Nat) (h : ∀ x ∈ l, x < 100) (hl : w.size + 3 * l.length ≤ 1000000) (H : List Blk) : ACall Tryz.prog 200 [sA w, eInts (cuesI l)] H (.ret (sA (lineS w l))) H := by
 refine fn_rule (m := false) (fn := Tryz.f200) (c := (Tryz.f200.body).getD .skip) mixed (by kernel_rfl) (by kernel_rfl) (of_decide_eq_true (by kernel_rfl)) ?_ ?_ ?_ H
 ·exact ⟨trivial, under_eInts 0 _, trivial⟩
 ·trivial
 ·have hcl := cuesI_length l
  refine LoopG.at (n0 := 0) rfl (loop_up mixed (m := false) (fun r => [(0, sA (lineS w (l.take r))), (7, eInts (cuesI l)), (8, n' (cuesI l).length), (9, n' r)]) (fun _ => []) (fun _ => True) l.length 0 (Nat.zero_le _) trivial ?_ trivial ?_)
  ·exact ⟨wp rfl trivial, ⟨_, rfl, Weak.refl _ _, under_eInts _ _⟩, wp rfl trivial, wp rfl trivial, trivial⟩
  ·intro r hr _
   refine If.mk (fun h1 => ?_) (fun h1 => ?_)
   ·refine ifY ?_
    have hr' : r < l.length := by omega
    obtain ⟨x, hx⟩ : ∃ x, l[r]? = some x := ⟨_, List.getElem?_eq_getElem hr'⟩
    have hxi : (cuesI l)[r]? = some (x : Int) := by unfold cuesI; rw [List.getElem?_map, hx]; rfl
    have hsz := lineS_size (l.take r) w
    rw [List.length_take] at hsz
    have e1 : (⟨#[32]⟩ : ByteArray).size = 1 := rfl
    have hd := decS_size x
    refine Ex.mk _ (jx_ints (r := r) rfl hxi) ?_
    refine Ex.mk _ rfl ?_
    refine CallG.pure _ (c_itoa (h x (List.mem_of_getElem? hx))) ?_
    refine now_of (bin_add (by omega)) ?_
    refine now_of (bin_add (by rw [ByteArray.size_append]; omega)) ?_
    refine Side.mk (fits64 (by omega)) ?_
    exact ⟨leb rfl, rfl, by omega, trivial, ⟨⟨_, rfl, Weak.of_eq (by rw [take_snocB hx, lineS_snoc, ByteArray.append_assoc]), trivial⟩, ⟨_, rfl, Weak.refl _ _, under_eInts _ _⟩, wp rfl trivial, wp rfl trivial, trivial⟩, trivial, trivial⟩
   ·refine ifN ?_
    refine ⟨leb rfl, ?_⟩
    obtain rfl : r = l.length := by omega
    rw [List.take_length]
    exact ⟨.inl rfl, FinG.mk _ rfl rfl rfl⟩
end Go.Vm

namespace Go.Vm
open Go.Proofs
def eStrs (l : List ByteArray) : AV := .sl l.length (l.map sA) .unk
theorem under_strs (n : Nat) (l : List ByteArray) : AV.unders n (l.map sA) := by
 induction l with
 | nil => trivial
 | cons x l ih => exact ⟨trivial, ih⟩
theorem under_eStrs (n : Nat) (l : List ByteArray) : (eStrs l).under n := by
 unfold eStrs
 simp only [AV.under]
 exact ⟨under_strs n l, trivial⟩
theorem jx_strs {l : List ByteArray} {tl : Tail} {i : Int} {r : Nat} {x : ByteArray} (hi : i = r) (h : l[r]? = some x) : indexOp Tryz.prog 176 (.sl l.length (l.map sA) tl) (.lit (.int .i64 i)) = some (.eptr [sA x]) := by
 obtain ⟨h1, rfl⟩ := List.getElem?_eq_some_iff.1 h
 exact ix_one (e := 9) (by kernel_rfl) (by kernel_rfl) hi h1
theorem ex_val {x : Option AV} {K : DR → Prop} (v : AV) (h : x = some v) (k : K (.val v .same)) : Ex (Option.rec (motive := fun _ => Option DR) none (fun v => some (DR.val v .same)) x) K := ⟨_, by rw [h], k⟩
def byteI (s : ByteArray) (j : Nat) : Nat := (s.data.toList.getD j 0).toNat
theorem byte_at {s : ByteArray} {j : Nat} (h : j < s.size) : s[j]?.map (fun b : UInt8 => AV.lit (.int .u8 b.toNat)) = some (.lit (.int .u8 (byteI s j))) := by
 have e : s[j]? = some s[j] := getElem?_pos s j h
 rw [e]
 unfold byteI
 have h' : j < s.data.toList.length := by simpa using h
 rw [List.getD_eq_getElem?_getD, List.getElem?_eq_getElem h']
 rfl
theorem idx_str {s : ByteArray} {j : Nat} (h : j < s.size) : indexA Tryz.prog 9 (sA s) (n' j) = some (.lit (.int .u8 (byteI s j))) := by
 unfold indexA
 simp only [n', sA, show Tryz.prog.underlying 9 = some .string by kernel_rfl]
 rw [if_pos (by omega), Int.toNat_natCast]
 exact byte_at h
theorem wrap_i64 {a : Int} (h0 : 0 ≤ a) (h1 : a < 1000000) : IntKind.i64.wrap a = a := by
 have e : a % (2 ^ IntKind.i64.bits : Int) = a := Int.emod_eq_of_lt h0 (Int.lt_trans h1 (by decide))
 have h2 : decide (a ≥ (2 ^ (IntKind.i64.bits - 1) : Int)) = false := decide_eq_false fun h => by
  have h3 : (1000000 : Int) < 2 ^ (IntKind.i64.bits - 1) := by decide
  have h : (2 ^ (IntKind.i64.bits - 1) : Int) ≤ a := h
  exact absurd (Int.lt_of_lt_of_le h3 h) (by omega)
 unfold IntKind.wrap
 simp only [e]
 rw [h2, Bool.and_false]
 rfl
def byF (s : ByteArray) (i j : Nat) : Nat := byteI s j * (j + 1) * (i + 1)
def rwF (s : ByteArray) (i : Nat) : Nat → Nat
 | 0 => 0
 | j + 1 => rwF s i j + byF s i j
def smF (L : List ByteArray) : Nat → Nat
 | 0 => 0
 | i + 1 => smF L i + rwF (L.getD i default) i (L.getD i default).size
def txF (L : List ByteArray) : Nat → ByteArray
 | 0 => ByteArray.empty
 | i + 1 => txF L i ++ L.getD i default ++ ⟨#[10]⟩
def sealN (L : List ByteArray) : Nat := smF L L.length % 191
def sealS (L : List ByteArray) : ByteArray := txF L L.length ++ ⟨#[101, 110, 100, 32]⟩ ++ decS (sealN L / 100) ++ decS (sealN L / 10 % 10) ++ decS (sealN L % 10) ++ ⟨#[10]⟩
theorem byteI_le (s : ByteArray) (j : Nat) : byteI s j ≤ 255 := by
 unfold byteI
 have := (s.data.toList.getD j 0).toNat_lt
 omega
theorem byF_le {s : ByteArray} {i j : Nat} (hi : i < 1000) (hj : j < 1000) : byteI s j * (j + 1) ≤ 255000 ∧ byF s i j ≤ 255000000 := by
 have h1 : byteI s j * (j + 1) ≤ 255 * 1000 := Nat.mul_le_mul (byteI_le s j) (by omega)
 have h2 : byteI s j * (j + 1) * (i + 1) ≤ 255000 * 1000 := Nat.mul_le_mul h1 (by omega)
 exact ⟨h1, h2⟩
theorem rwF_le {s : ByteArray} {i : Nat} (hi : i < 1000) : ∀ {j : Nat}, j ≤ 1000 → rwF s i j ≤ j * 255000000
 | 0, _ => Nat.le_refl _
 | j + 1, h => by
  have h1 := rwF_le (s := s) hi (j := j) (by omega)
  have h2 := (byF_le (s := s) hi (j := j) (by omega)).2
  show rwF s i j + byF s i j ≤ _
  omega
theorem smF_le {L : List ByteArray} (hs : ∀ s ∈ L, s.size ≤ 1000) : ∀ {i : Nat}, i ≤ 1000 → i ≤ L.length → smF L i ≤ i * 255000000000
 | 0, _, _ => Nat.le_refl _
 | i + 1, h, h' => by
  have h1 := smF_le hs (i := i) (by omega) (by omega)
  obtain ⟨s, hx⟩ : ∃ s, L[i]? = some s := ⟨_, List.getElem?_eq_getElem (by omega)⟩
  have e : L.getD i default = s := by rw [List.getD_eq_getElem?_getD, hx]; rfl
  have h2 := hs s (List.mem_of_getElem? hx)
  have h3 := rwF_le (s := s) (i := i) (by omega) h2
  show smF L i + rwF (L.getD i default) i (L.getD i default).size ≤ _
  rw [e]
  omega
theorem txF_size {L : List ByteArray} (hs : ∀ s ∈ L, s.size ≤ 1000) : ∀ {i : Nat}, i ≤ L.length → (txF L i).size ≤ i * 1001
 | 0, _ => Nat.le_refl _
 | i + 1, h => by
  have h1 := txF_size hs (i := i) (by omega)
  obtain ⟨s, hx⟩ : ∃ s, L[i]? = some s := ⟨_, List.getElem?_eq_getElem (by omega)⟩
  have e : L.getD i default = s := by rw [List.getD_eq_getElem?_getD, hx]; rfl
  have h2 := hs s (List.mem_of_getElem? hx)
  show (txF L i ++ L.getD i default ++ ⟨#[10]⟩).size ≤ _
  rw [e, ByteArray.size_append, ByteArray.size_append]
  have e1 : (⟨#[10]⟩ : ByteArray).size = 1 := rfl
  omega
end Go.Vm

namespace Go.Vm
open Go.Proofs
theorem Weak.fullOwn {t : Trie Blk} {r g len sz : Nat} {cells : List AV} (hr : get t r = some (.row g)) (hc : cells.length = len * sz) : Weak t (.sl len cells .full) (.sl len cells (.own r g sz)) := fun _ _ hH _ _ _ _ h => by
 simp only [VRel] at h ⊢
 obtain ⟨base, cap, h1, h2, h3, h4⟩ := h
 exact ⟨base, cap, h1, h2, h3, hc, g, hH.blk _ _ hr, Nat.le_refl _, fun _ => .inl h4⟩
def wBook : ByteArray := ⟨#[98, 111, 111, 107]⟩
def wVersion : ByteArray := ⟨#[118, 101, 114, 115, 105, 111, 110]⟩
def wState : ByteArray := ⟨#[115, 116, 97, 116, 101]⟩
def flatM (st : List Move) : List Nat := st.flatMap fun m => [m.1.toNat, m.2.toNat]
def lineS1 (st : List Move) : ByteArray := lineS wState (flatM st)
def rowsV (v : Vers) : List ByteArray := wVersion :: v.map lineS1
def rowsB (b : Book) : List ByteArray := lineS wBook [b.cues.toNat, b.tunes.toNat] :: b.vs.flatMap rowsV
def inL (n : Int) : Prop := 0 ≤ n ∧ n < 100
structure LowB (b : Book) : Prop where
 c : inL b.cues
 t : inL b.tunes
 m : ∀ v ∈ b.vs, ∀ st ∈ v, st.length ≤ 150 ∧ ∀ m ∈ st, inL m.1 ∧ inL m.2
 n : (rowsB b).length ≤ 1000
def strO (L : List ByteArray) (id : Nat) : AV := .sl L.length (L.map sA) (.own id (L.length - 1) 1)
theorem under_strO {n id : Nat} (h : id < n) (L : List ByteArray) : (strO L id).under n := ⟨under_strs _ _, h⟩
theorem app_strO {g : Nat → Option Blk} {n id : Nat} {L : List ByteArray} {s : ByteArray} (h0 : L ≠ []) (h2 : L.length < 2097152) (hg : g id = some (.row (L.length - 1))) :
  appT Tryz.prog false g n 176 176 (strO L id) (.sl 1 [sA s] .full) = some (strO (L ++ [s]) id, .set id (.row ((L ++ [s]).length - 1))) := by
 have h1 := List.length_pos_iff.2 h0
 have := appT_own (P := Tryz.prog) (g := g) (n := n) (sT := 176) (xT := 176) (e := 9) (size := 1) (bytes := 16) (z := .string ByteArray.empty) (cells := L.map sA) (new := [sA s]) (x := .sl 1 [sA s] .full) (len := L.length) (k := 1) (id := id) (gen := L.length - 1) (by kernel_rfl) (by kernel_rfl) (by kernel_rfl) (by kernel_rfl) (by kernel_rfl) rfl (by omega) (by rw [List.length_map]; omega) (by omega) hg rfl
 unfold strO
 rw [this, List.length_append, List.map_append, List.length_singleton]
 rw [show L.length - 1 + 1 = L.length + 1 - 1 by omega]
 rfl
theorem rowsV_take (vs : List Vers) (r : Nat) : ((vs.take r).flatMap rowsV).length ≤ (vs.flatMap rowsV).length := by
 conv => rhs; rw [← List.take_append_drop r vs]
 rw [List.flatMap_append, List.length_append]
 omega
theorem rowsV_length (vs : List Vers) : vs.length ≤ (vs.flatMap rowsV).length := by
 induction vs with
 | nil => exact Nat.le_refl _
 | cons v vs ih =>
  rw [List.flatMap_cons, List.length_append, List.length_cons]
  have : 0 < (rowsV v).length := Nat.succ_pos _
  omega
theorem app_pair {g : Nat → Option Blk} {n id c : Nat} {cells : List AV} {a d : Int} (h1 : cells.length = 2 * c) (h2 : c < 1000000) (hg : g id = some (.row c)) :
  appT Tryz.prog false g n 25 25 (.sl (2 * c) cells (.own id c 1)) (.sl 2 [n' a, n' d] .full) = some (.sl (2 * c + 2) (cells ++ [n' a, n' d]) (.own id (c + 1) 1), .set id (.row (c + 1))) :=
 appT_own (e := 3) (bytes := 8) (z := .int .i64 0) (by kernel_rfl) (by kernel_rfl) (by kernel_rfl) (by kernel_rfl) (by kernel_rfl) rfl (by omega) (by omega) (by omega) hg rfl
theorem flatM_snoc (l : List Move) (x : Move) : flatM (l ++ [x]) = flatM l ++ [x.1.toNat, x.2.toNat] := by
 unfold flatM
 rw [List.flatMap_append, List.flatMap_cons, List.flatMap_nil, List.append_nil]
theorem flatM_length (l : List Move) : (flatM l).length = 2 * l.length := by
 induction l with
 | nil => rfl
 | cons x l ih =>
  show (x.1.toNat :: x.2.toNat :: flatM l).length = _
  rw [List.length_cons, List.length_cons, List.length_cons, ih]
  omega
theorem flatM_low {l : List Move} (h : ∀ m ∈ l, inL m.1 ∧ inL m.2) : ∀ x ∈ flatM l, x < 100 := fun x hx => by
 unfold flatM at hx
 obtain ⟨m, hm, hx⟩ := List.mem_flatMap.1 hx
 obtain ⟨h1, h2⟩ := h m hm
 unfold inL at h1 h2
 simp only [List.mem_cons, List.not_mem_nil, or_false] at hx
 rcases hx with rfl | rfl <;> omega
theorem lineS1_size {st : List Move} (h : st.length ≤ 150) : (lineS1 st).size ≤ 1000 := by
 have h1 := lineS_size (flatM st) wState
 rw [flatM_length] at h1
 have e : wState.size = 5 := rfl
 unfold lineS1
 omega
end Go.Vm

namespace Go.Vm
open Go.Proofs
set_option maxRecDepth 100000 in
theorem c_words (H : List Blk) : ACall Tryz.prog 201 [] H (.ret (.agg [sA wBook, sA wVersion, sA wState])) H := by
 refine fn_rule (m := false) (fn := Tryz.f201) (c := (Tryz.f201.body).getD .skip) mixed (by kernel_rfl) (by kernel_rfl) (of_decide_eq_true (by kernel_rfl)) ?_ ?_ ?_ H
 ·exact trivial
 ·exact ⟨trivial, trivial, trivial, trivial⟩
 ·exact ⟨.inl rfl, FinG.mk _ rfl rfl rfl⟩
set_option maxRecDepth 100000 in
theorem c_head (b : Book) (H : List Blk) : ACall Tryz.prog 254 [eBook b] H (.ret (.sl 2 [n' b.cues, n' b.tunes] .full)) H := by
 refine fn_rule (m := false) (fn := Tryz.f254) (c := (Tryz.f254.body).getD .skip) mixed (by kernel_rfl) (by kernel_rfl) (of_decide_eq_true (by kernel_rfl)) ?_ ?_ ?_ H
 ·exact ⟨under_eBook 0 _, trivial⟩
 ·exact ⟨⟨trivial, trivial, trivial⟩, trivial⟩
 ·exact ⟨.inl rfl, FinG.mk _ rfl rfl rfl⟩
set_option maxRecDepth 100000 in
theorem c_vers (H : List Blk) : ACall Tryz.prog 255 [.agg []] H (.ret (.lit (.slice none 0 0))) H := by
 refine fn_rule (m := false) (fn := Tryz.f255) (c := (Tryz.f255.body).getD .skip) mixed (by kernel_rfl) (by kernel_rfl) (of_decide_eq_true (by kernel_rfl)) ?_ ?_ ?_ H
 ·exact ⟨trivial, trivial⟩
 ·trivial
 ·exact ⟨.inl rfl, FinG.mk _ rfl rfl rfl⟩
theorem jx_movesS {l : List Move} {tl : Tail} {i : Int} {r : Nat} {x : Move} (hi : i = r) (h : l[r]? = some x) : indexOp Tryz.prog 220 (.sl l.length (l.flatMap eMove) tl) (.lit (.int .i64 i)) = some (.eptr (eMove x)) := by
 obtain ⟨h1, rfl⟩ := List.getElem?_eq_some_iff.1 h
 subst hi
 refine (indexOp_sl (elem := 116) (n := 2) (by kernel_rfl) (by kernel_rfl) ⟨by omega, by omega, by rw [flat_length, Int.toNat_natCast]; omega, by omega⟩).trans ?_
 rw [Int.toNat_natCast, flat_at (List.getElem?_eq_getElem h1)]
set_option maxHeartbeats 4000000 in
set_option maxRecDepth 100000 in
theorem c_state {st : List Move} (h150 : st.length ≤ 150) (hm : ∀ m ∈ st, inL m.1 ∧ inL m.2) (H : List Blk) : ACall Tryz.prog 256 [eState st] H (.ret (eInts (cuesI (flatM st)))) H := by
 refine fn_rule (m := false) (fn := Tryz.f256) (c := (Tryz.f256.body).getD .skip) mixed (by kernel_rfl) (by kernel_rfl) (of_decide_eq_true (by kernel_rfl)) ?_ ?_ ?_ H
 ·exact ⟨under_state 0 _, trivial⟩
 ·exact under_eInts 0 _
 ·refine LoopG.ghost (LoopG.at (n0 := 1) rfl (loop_up mixed (m := false) (fun c => [(3, .sl (2 * c) ((cuesI (flatM (st.take c))).map n') (.own 0 c 1)), (6, eState st), (7, n' st.length), (8, n' c)]) (fun c => [(0, .row c)]) (fun _ => True) st.length 0 (leb rfl) trivial ?_ ?_ ?_))
  ·exact ⟨⟨_, rfl, Weak.own (r := 0) (g := 0) 1 rfl, ⟨trivial, ltb rfl⟩⟩, ⟨_, rfl, Weak.refl _ _, under_state _ _⟩, wp rfl trivial, wp rfl trivial, trivial⟩
  ·exact ⟨bk rfl rfl, trivial⟩
  ·intro c hc _
   refine If.mk (fun h3 => ?_) (fun h3 => ?_)
   ·refine ifY ?_
    obtain ⟨x, hx⟩ : ∃ x, st[c]? = some x := ⟨_, List.getElem?_eq_getElem (by omega)⟩
    have hlen : ((cuesI (flatM (st.take c))).map n').length = 2 * c := by
     rw [List.length_map, cuesI_length, flatM_length, List.length_take]
     omega
    refine Ex.mk _ (jx_movesS (r := c) rfl hx) ?_
    refine Ex.mk _ rfl ?_
    refine ex_app _ _ (app_pair hlen (by omega) rfl) ?_
    refine Side.mk (fits64 (by omega)) ?_
    obtain ⟨hm1, hm2⟩ := hm x (List.mem_of_getElem? hx)
    unfold inL at hm1 hm2
    have en : (cuesI (flatM (st.take (c + 1)))).map n' = (cuesI (flatM (st.take c))).map n' ++ [n' x.1, n' x.2] := by
     rw [take_snocB hx, flatM_snoc]
     unfold cuesI
     rw [List.map_append, List.map_append]
     show _ ++ [n' ((x.1.toNat : Nat) : Int), n' ((x.2.toNat : Nat) : Int)] = _
     rw [Int.toNat_of_nonneg hm1.1, Int.toNat_of_nonneg hm2.1]
    refine ⟨leb rfl, rfl, by omega, trivial, ⟨⟨_, rfl, Weak.of_eq (?_), ⟨under_ints _ _, ltb rfl⟩⟩, ⟨_, rfl, Weak.refl _ _, under_state _ _⟩, wp rfl trivial, wp rfl trivial, trivial⟩, ⟨bk rfl rfl, trivial⟩, ⟨_, rfl, trivial⟩, trivial⟩
    rw [en]
    rfl
   ·refine ifN ?_
    obtain rfl : c = st.length := by omega
    refine ⟨leb rfl, .inl rfl, FinG.mk _ rfl rfl ?_⟩
    rw [List.take_length]
    show AV.sl _ (AV.freezes _ ((cuesI (flatM st)).map n')) .unk = _
    rw [freezes_ints]
    unfold eInts
    rw [cuesI_length, flatM_length]
theorem book_nums {b : Book} (hc : inL b.cues) (ht : inL b.tunes) : eInts (cuesI [b.cues.toNat, b.tunes.toNat]) = .sl 2 [n' b.cues, n' b.tunes] .unk := by
 show AV.sl 2 [n' ((b.cues.toNat : Nat) : Int), n' ((b.tunes.toNat : Nat) : Int)] .unk = _
 rw [Int.toNat_of_nonneg hc.1, Int.toNat_of_nonneg ht.1]
theorem book_low {b : Book} (hc : inL b.cues) (ht : inL b.tunes) : ∀ x ∈ [b.cues.toNat, b.tunes.toNat], x < 100 := fun x hx => by
 unfold inL at hc ht
 simp only [List.mem_cons, List.not_mem_nil, or_false] at hx
 rcases hx with rfl | rfl <;> omega
set_option maxRecDepth 100000 in
theorem c_row0 {b : Book} (hc : inL b.cues) (ht : inL b.tunes) (H : List Blk) : ACall Tryz.prog 182 [.iface 217 (eBook b)] H (.ret (sA (lineS wBook [b.cues.toNat, b.tunes.toNat]))) H := by
 refine fn_rule (m := false) (fn := Tryz.f182) (c := (Tryz.f182.body).getD .skip) mixed (by kernel_rfl) (by kernel_rfl) (of_decide_eq_true (by kernel_rfl)) ?_ ?_ ?_ H
 ·exact ⟨under_eBook 0 _, trivial⟩
 ·trivial
 ·refine ifN ?_
  refine ifN ?_
  refine CallG.pure _ (c_words) ?_
  refine Ex.mk _ rfl ?_
  refine CallG.pure _ (c_head b) ?_
  have hj := c_joined wBook [b.cues.toNat, b.tunes.toNat] (book_low hc ht) (by show 4 + 3 * 2 ≤ 1000000; decide)
  generalize lineS wBook [b.cues.toNat, b.tunes.toNat] = R at *
  refine CallG.weak _ (.cons (fun H => WeakH.refl _ H) (.cons (fun H => book_nums hc ht ▸ WeakH.tail _ _ _ H) .nil)) hj ?_
  exact ⟨.inl rfl, FinG.mk _ rfl rfl rfl⟩
set_option maxRecDepth 100000 in
theorem c_row1 (H : List Blk) : ACall Tryz.prog 182 [.iface 219 (.agg [])] H (.ret (sA wVersion)) H := by
 refine fn_rule (m := false) (fn := Tryz.f182) (c := (Tryz.f182.body).getD .skip) mixed (by kernel_rfl) (by kernel_rfl) (of_decide_eq_true (by kernel_rfl)) ?_ ?_ ?_ H
 ·exact ⟨trivial, trivial⟩
 ·trivial
 ·refine ifY ?_
  refine CallG.pure _ (c_words) ?_
  refine Ex.mk _ rfl ?_
  refine CallG.pure _ (c_vers) ?_
  refine CallG.weak _ (.cons (fun H => WeakH.refl _ H) (.cons (fun H => WeakH.nil H) .nil)) (c_joined wVersion [] (fun x hx => by cases hx) (by show 7 + 3 * 0 ≤ 1000000; decide)) ?_
  exact ⟨.inl rfl, FinG.mk _ rfl rfl rfl⟩
set_option maxRecDepth 100000 in
theorem c_row2 {st : List Move} (h150 : st.length ≤ 150) (hm : ∀ m ∈ st, inL m.1 ∧ inL m.2) (H : List Blk) : ACall Tryz.prog 182 [.iface 220 (eState st)] H (.ret (sA (lineS1 st))) H := by
 refine fn_rule (m := false) (fn := Tryz.f182) (c := (Tryz.f182.body).getD .skip) mixed (by kernel_rfl) (by kernel_rfl) (of_decide_eq_true (by kernel_rfl)) ?_ ?_ ?_ H
 ·exact ⟨under_state 0 _, trivial⟩
 ·trivial
 ·refine ifN ?_
  refine ifY ?_
  refine CallG.pure _ (c_words) ?_
  refine Ex.mk _ rfl ?_
  refine CallG.pure _ (c_state h150 hm) ?_
  have hj := c_joined wState (flatM st) (flatM_low hm) (by rw [flatM_length]; show 5 + _ ≤ _; omega)
  refine CallG.pure _ (hj) ?_
  exact ⟨.inl rfl, FinG.mk _ rfl rfl rfl⟩
end Go.Vm

namespace Go.Vm
open Go.Proofs Go.RowKit
def joinS (xs : List ByteArray) (sep : ByteArray) : ByteArray := ⟨(Lib.join (xs.map (·.data.toList)) sep.data.toList).toArray⟩
theorem strsOf_map : ∀ xs : List ByteArray, strsOf (xs.map sA) = some xs
 | [] => rfl
 | x :: xs => by
  show (strsOf (xs.map sA)).map (x :: ·) = _
  rw [strsOf_map xs]
  rfl
theorem c_join {xs : List ByteArray} {sep : ByteArray} (tail : Tail) (h2 : xs.length ≤ 65536) (h3 : (joinS xs sep).size ≤ 16777216) (H : List Blk) : ACall Tryz.prog 184 [.sl xs.length (xs.map sA) tail, sA sep] H (.ret (sA (joinS xs sep))) H := by
 have h3 : (Lib.join (xs.map (·.data.toList)) sep.data.toList).length ≤ 16777216 := by
  have : (joinS xs sep).size = (Lib.join (xs.map (·.data.toList)) sep.data.toList).length := rfl
  omega
 refine ACall.of_below fun O ι w cs hR hargs => ?_
 obtain ⟨l⟩ := cs
 match l, hargs with
 | [c1, c2], hargs =>
  simp only [VRels, VRel, sA] at hargs
  obtain ⟨⟨base, cap, rfl, hle, hcells, _⟩, rfl, _⟩ := hargs
  rcases hcells with hx | ⟨b, o, rfl, hf, hr⟩
  ·have hx : xs = [] := List.map_eq_nil_iff.1 hx
   subst hx
   refine (Tryz.strings_Join_none base cap sep w).mono ?_
   rintro e w' ⟨rfl, rfl⟩
   exact ⟨rfl, Below.refl _ _⟩
  ·exact Tryz.strings_Join b o cap xs sep w (strsOf_sound (strsOf_map xs) hr) hf.lt (by omega) (by omega) (by omega)
 | [], hargs => simp [VRels] at hargs
 | [_], hargs => simp [VRels] at hargs
 | _ :: _ :: _ :: _, hargs => simp [VRels] at hargs
theorem inter_snoc (e : List UInt8) : ∀ ls : List (List UInt8), [(10 : UInt8)].intercalate (ls ++ [e]) = (ls.map (· ++ [10])).flatten ++ e
 | [] => by simp [List.intercalate]
 | [x] => by simp [List.intercalate, List.intersperse]
 | x :: y :: ls => by
  have ih := inter_snoc e (y :: ls)
  unfold List.intercalate at ih ⊢
  rw [List.cons_append, List.cons_append, List.intersperse_cons_cons, List.flatten_cons, List.flatten_cons, ← List.cons_append, ih]
  simp
theorem txF_list (L : List ByteArray) : ∀ n, n ≤ L.length → (txF L n).data.toList = (((L.take n).map (·.data.toList)).map (· ++ [10])).flatten
 | 0, _ => by rw [List.take_zero]; rfl
 | n + 1, h => by
  obtain ⟨s, hx⟩ : ∃ s, L[n]? = some s := ⟨_, List.getElem?_eq_getElem (by omega)⟩
  have e : L.getD n default = s := by rw [List.getD_eq_getElem?_getD, hx]; rfl
  rw [take_snocB hx, List.map_append, List.map_append, List.flatten_append, ← txF_list L n (by omega)]
  show (txF L n ++ L.getD n default ++ ⟨#[10]⟩).data.toList = _
  rw [e, ByteArray.data_append, ByteArray.data_append, Array.toList_append, Array.toList_append]
  simp
theorem bytes_ext {a b : ByteArray} (h : a.data.toList = b.data.toList) : a = b := by
 obtain ⟨⟨a⟩⟩ := a
 obtain ⟨⟨b⟩⟩ := b
 have h : a = b := h
 rw [h]
theorem join_tx (L : List ByteArray) (e : ByteArray) : joinS (L ++ [e]) ⟨#[10]⟩ = txF L L.length ++ e := by
 apply bytes_ext
 rw [ByteArray.data_append, Array.toList_append, txF_list L _ (Nat.le_refl _), List.take_length]
 show Lib.join ((L ++ [e]).map (·.data.toList)) [10] = _
 rw [List.map_append]
 exact inter_snoc e.data.toList (L.map (·.data.toList))
def endS (L : List ByteArray) : ByteArray := ⟨#[101, 110, 100, 32]⟩ ++ decS (sealN L / 100) ++ decS (sealN L / 10 % 10) ++ decS (sealN L % 10)
theorem join_seal (L : List ByteArray) : joinS (L ++ [endS L]) ⟨#[10]⟩ ++ ⟨#[10]⟩ = sealS L := by
 rw [join_tx]
 unfold endS sealS
 simp only [ByteArray.append_assoc]
set_option maxHeartbeats 4000000 in
set_option maxRecDepth 100000 in
theorem c_text {b : Book} (hb : LowB b) (H : List Blk) : ACall Tryz.prog 139 [eBook b] H (.ret (sA (sealS (rowsB b)))) H := by
 refine fn_rule (m := false) (fn := Tryz.f139) (c := (Tryz.f139.body).getD .skip) mixed (by kernel_rfl) (by kernel_rfl) (of_decide_eq_true (by kernel_rfl)) ?_ ?_ ?_ H
 ·exact ⟨under_eBook 0 _, trivial⟩
 ·trivial
 ·have hr0 := c_row0 hb.c hb.t
  have hB : rowsB b = lineS wBook [b.cues.toNat, b.tunes.toNat] :: b.vs.flatMap rowsV := rfl
  have hn := hb.n
  rw [hB] at hn ⊢
  have hR1 : (lineS wBook [b.cues.toNat, b.tunes.toNat]).size ≤ 1000 := by
   have := lineS_size [b.cues.toNat, b.tunes.toNat] wBook
   have e4 : wBook.size = 4 := rfl
   simp only [List.length_cons, List.length_nil] at this
   omega
  generalize lineS wBook [b.cues.toNat, b.tunes.toNat] = R0 at *
  have hvl := rowsV_length b.vs
  have hvl2 : b.vs.length ≤ 1000 := by rw [List.length_cons] at hn; omega
  refine CallG.pure _ (hr0) ?_
  refine LoopG.ghost (LoopG.at (n0 := 2) rfl (loop_up mixed (m := false) (fun r => [(1, .ptr 0 0), (3, strO (R0 :: (b.vs.take r).flatMap rowsV) 1), (18, eVersions b.vs), (19, n' b.vs.length), (20, n' r)]) (fun r => [(0, bBox b), (1, .row ((R0 :: (b.vs.take r).flatMap rowsV).length - 1))]) (fun _ => True) b.vs.length 1 (leb rfl) trivial ?_ ?_ ?_))
  ·exact ⟨wp rfl (ltb rfl), ⟨_, rfl, Weak.fullOwn (r := 1) (g := 0) rfl rfl, under_strO (ltb rfl) _⟩, ⟨_, rfl, Weak.refl _ _, under_eVersions _ _⟩, wp rfl trivial, wp rfl trivial, trivial⟩
  ·exact ⟨bk rfl rfl, bk rfl rfl, trivial⟩
  ·intro r hr _
   refine If.mk (fun h1 => ?_) (fun h1 => ?_)
   ·refine ifY ?_
    obtain ⟨v, hv⟩ : ∃ v, b.vs[r]? = some v := ⟨_, List.getElem?_eq_getElem (by omega)⟩
    have hvm := List.mem_of_getElem? hv
    have et := take_snocB hv
    have hLr : (R0 :: (b.vs.take r).flatMap rowsV).length + (v.length + 1) ≤ 1000 := by
     have h5 := rowsV_take b.vs (r + 1)
     rw [et, List.flatMap_append, List.length_append, List.flatMap_cons, List.flatMap_nil, List.append_nil] at h5
     have h6 : (rowsV v).length = v.length + 1 := by
      show (v.map lineS1).length + 1 = _
      rw [List.length_map]
     rw [List.length_cons] at hn ⊢
     omega
    refine Ex.mk _ (jx_versions (r := r) rfl hv) ?_
    refine Ex.mk _ rfl ?_
    refine CallG.pure _ (c_row1) ?_
    refine ex_app _ _ (app_strO (L := R0 :: (b.vs.take r).flatMap rowsV) (s := wVersion) (by simp) (by omega) rfl) ?_
    generalize hL0 : R0 :: (b.vs.take r).flatMap rowsV = L0 at *
    refine LoopG.at (n0 := 3) rfl (loop_up mixed (m := false) (fun k => [(1, .ptr 0 0), (3, strO (L0 ++ [wVersion] ++ (v.take k).map lineS1) 1), (18, eVersions b.vs), (19, n' b.vs.length), (20, n' r), (31, eStates v), (32, n' v.length), (33, n' k)]) (fun k => [(0, bBox b), (1, .row ((L0 ++ [wVersion] ++ (v.take k).map lineS1).length - 1)), (2, vBox v)]) (fun _ => True) v.length 1 (leb rfl) trivial ?_ ?_ ?_)
    ·exact ⟨wp rfl (ltb rfl), ⟨_, rfl, Weak.of_eq (by rw [List.take_zero, List.map_nil, List.append_nil]), under_strO (ltb rfl) _⟩, ⟨_, rfl, Weak.refl _ _, under_eVersions _ _⟩, wp rfl trivial, wp rfl trivial, ⟨_, rfl, Weak.refl _ _, under_states _ _⟩, wp rfl trivial, wp rfl trivial, trivial⟩
    ·exact ⟨bk rfl rfl, ⟨by rw [List.take_zero, List.map_nil, List.append_nil]; rfl, ltb rfl⟩, bk rfl rfl, trivial⟩
    ·intro k hk _
     refine If.mk (fun h2 => ?_) (fun h2 => ?_)
     ·refine ifY ?_
      obtain ⟨st, hst⟩ : ∃ st, v[k]? = some st := ⟨_, List.getElem?_eq_getElem (by omega)⟩
      have hsm := List.mem_of_getElem? hst
      obtain ⟨h150, hm⟩ := hb.m v hvm st hsm
      have ek := take_snocB hst
      generalize hL1 : L0 ++ [wVersion] ++ (v.take k).map lineS1 = L1 at *
      have hL1n : L1 ≠ [] ∧ L1.length ≤ 1000 := by
       subst hL1
       refine ⟨by simp, ?_⟩
       rw [List.length_append, List.length_append, List.length_map, List.length_take, List.length_singleton]
       omega
      refine Ex.mk _ (jx_states (r := k) rfl hst) ?_
      refine Ex.mk _ rfl ?_
      refine CallG.pure _ (c_row2 h150 hm) ?_
      refine ex_app _ _ (app_strO (L := L1) (s := lineS1 st) hL1n.1 (by omega) rfl) ?_
      refine Side.mk (fits64 (by omega)) ?_
      have eL : L0 ++ [wVersion] ++ (v.take (k + 1)).map lineS1 = L1 ++ [lineS1 st] := by
       rw [ek, List.map_append, ← List.append_assoc, hL1]
       rfl
      refine ⟨leb rfl, rfl, by omega, trivial, ⟨wp rfl (ltb rfl), ⟨_, rfl, Weak.of_eq (by rw [eL]), under_strO (ltb rfl) _⟩, ⟨_, rfl, Weak.refl _ _, under_eVersions _ _⟩, wp rfl trivial, wp rfl trivial, ⟨_, rfl, Weak.refl _ _, under_states _ _⟩, wp rfl trivial, wp rfl trivial, trivial⟩, ⟨bk rfl rfl, ⟨by rw [eL]; rfl, ltb rfl⟩, bk rfl rfl, trivial⟩, ⟨_, rfl, trivial⟩, ⟨_, rfl, vBox_under _ _⟩, trivial⟩
     ·refine ifN ?_
      obtain rfl : k = v.length := by omega
      refine ⟨leb rfl, ?_⟩
      rw [List.take_length]
      refine Side.mk (fits64 (by omega)) ?_
      have eL : R0 :: (b.vs.take (r + 1)).flatMap rowsV = L0 ++ [wVersion] ++ v.map lineS1 := by
       rw [et, List.flatMap_append, List.flatMap_cons, List.flatMap_nil, List.append_nil, ← List.cons_append, hL0, List.append_assoc]
       rfl
      refine ⟨leb rfl, rfl, by omega, trivial, ⟨wp rfl (ltb rfl), ⟨_, rfl, Weak.of_eq (by rw [eL]), under_strO (ltb rfl) _⟩, ⟨_, rfl, Weak.refl _ _, under_eVersions _ _⟩, wp rfl trivial, wp rfl trivial, trivial⟩, ⟨bk rfl rfl, ⟨by rw [eL]; rfl, ltb rfl⟩, trivial⟩, ⟨_, rfl, trivial⟩, trivial⟩
   ·refine ifN ?_
    obtain rfl : r = b.vs.length := by omega
    refine ⟨leb rfl, ?_⟩
    rw [List.take_length]
    have hs : ∀ s ∈ R0 :: b.vs.flatMap rowsV, s.size ≤ 1000 := fun s hs => by
     rcases List.mem_cons.1 hs with rfl | hs
     ·exact hR1
     ·obtain ⟨v, hv, hs⟩ := List.mem_flatMap.1 hs
      rcases List.mem_cons.1 hs with rfl | hs
      ·exact (by decide : (7 : Nat) ≤ 1000)
      ·obtain ⟨st, hst, rfl⟩ := List.mem_map.1 hs
       exact lineS1_size (hb.m v hv st hst).1
    have hL0 : R0 :: b.vs.flatMap rowsV ≠ [] := by simp
    generalize R0 :: b.vs.flatMap rowsV = L at *
    refine LoopG.at (n0 := 2) rfl (loop_up mixed (m := false) (fun i => [(3, strO L 1), (8, n' (smF L i)), (45, eStrs L), (46, n' L.length), (47, n' i)]) (fun _ => [(1, .row (L.length - 1))]) (fun _ => True) L.length 1 (leb rfl) trivial ?_ ?_ ?_)
    ·exact ⟨⟨_, rfl, Weak.refl _ _, under_strO (ltb rfl) _⟩, wp rfl trivial, ⟨_, rfl, Weak.tail _ _ _ _, under_eStrs _ _⟩, wp rfl trivial, wp rfl trivial, trivial⟩
    ·exact ⟨bk rfl rfl, trivial⟩
    ·intro i hi _
     refine If.mk (fun h3 => ?_) (fun h3 => ?_)
     ·refine ifY ?_
      obtain ⟨s, hx⟩ : ∃ s, L[i]? = some s := ⟨_, List.getElem?_eq_getElem (by omega)⟩
      have hz := hs s (List.mem_of_getElem? hx)
      have hsm := smF_le hs (i := i) (by omega) (by omega)
      refine Ex.mk _ (jx_strs (r := i) rfl hx) ?_
      refine Ex.mk _ rfl ?_
      refine LoopG.at (n0 := 2) rfl (loop_up mixed (m := false) (fun j => [(3, strO L 1), (8, n' ((smF L i + rwF s i j : Nat))), (9, n' i), (10, sA s), (45, eStrs L), (46, n' L.length), (47, n' i), (53, n' s.size), (54, n' j)]) (fun _ => [(1, .row (L.length - 1))]) (fun _ => True) s.size 1 (leb rfl) trivial ?_ ?_ ?_)
      ·exact ⟨⟨_, rfl, Weak.refl _ _, under_strO (ltb rfl) _⟩, wp rfl trivial, wp rfl trivial, wp rfl trivial, ⟨_, rfl, Weak.refl _ _, under_eStrs _ _⟩, wp rfl trivial, wp rfl trivial, wp rfl trivial, wp rfl trivial, trivial⟩
      ·exact ⟨bk rfl rfl, trivial⟩
      ·intro j hj _
       refine If.mk (fun h4 => ?_) (fun h4 => ?_)
       ·refine ifY ?_
        have hj2 : j < s.size := by omega
        have hrw := rwF_le (s := s) (i := i) (by omega) (j := j) (by omega)
        obtain ⟨hb1, hb2⟩ := byF_le (s := s) (i := i) (j := j) (by omega) (by omega)
        have hb0 := byteI_le s j
        have hw : IntKind.i64.wrap ((byteI s j : Nat) : Int) = ((byteI s j : Nat) : Int) := wrap_i64 (by omega) (by omega)
        have q1 : ((byteI s j : Nat) : Int) * ((j : Int) + 1) = ((byteI s j * (j + 1) : Nat) : Int) := by rw [Int.natCast_mul, Int.natCast_add]; rfl
        have q2 : ((byteI s j : Nat) : Int) * ((j : Int) + 1) * ((i : Int) + 1) = ((byF s i j : Nat) : Int) := by
         rw [q1]; unfold byF; rw [Int.natCast_mul _ (i + 1), Int.natCast_add i 1]; rfl
        refine ex_val _ (idx_str (s := s) (j := j) hj2) ?_
        refine Side.mk (fits64 (by omega)) ?_
        refine Side.mk (fits64 (by rw [hw, q1]; omega)) ?_
        refine Side.mk (fits64 (by omega)) ?_
        refine Side.mk (fits64 (by rw [hw, q2]; omega)) ?_
        refine Side.mk (fits64 (by rw [hw, q2]; omega)) ?_
        refine Side.mk (fits64 (by omega)) ?_
        refine ⟨leb rfl, rfl, by omega, trivial, ⟨⟨_, rfl, Weak.refl _ _, under_strO (ltb rfl) _⟩, ⟨_, rfl, Weak.of_eq (?_), trivial⟩, wp rfl trivial, wp rfl trivial, ⟨_, rfl, Weak.refl _ _, under_eStrs _ _⟩, wp rfl trivial, wp rfl trivial, wp rfl trivial, wp rfl trivial, trivial⟩, ⟨bk rfl rfl, trivial⟩, trivial⟩
        refine congrArg n' ?_
        show _ = ((smF L i + (rwF s i j + byF s i j) : Nat) : Int)
        rw [hw, q2]
        omega
       ·refine ifN ?_
        refine ⟨leb rfl, ?_⟩
        obtain rfl : j = s.size := by omega
        refine Side.mk (fits64 (by omega)) ?_
        have e : L.getD i default = s := by rw [List.getD_eq_getElem?_getD, hx]; rfl
        refine ⟨leb rfl, rfl, by omega, trivial, ⟨⟨_, rfl, Weak.refl _ _, under_strO (ltb rfl) _⟩, ⟨_, rfl, Weak.of_eq (?_), trivial⟩, ⟨_, rfl, Weak.refl _ _, under_eStrs _ _⟩, wp rfl trivial, wp rfl trivial, trivial⟩, ⟨bk rfl rfl, trivial⟩, ⟨_, rfl, trivial⟩, trivial⟩
        refine congrArg n' ?_
        show _ = ((smF L i + rwF (L.getD i default) i (L.getD i default).size : Nat) : Int)
        rw [e]
     ·refine ifN ?_
      refine ⟨leb rfl, ?_⟩
      obtain rfl : i = L.length := by omega
      have hc0 : sealN L < 191 := Nat.mod_lt _ (by decide)
      have q1 : IntKind.i64.wrap ((((smF L L.length : Nat) : Int).tmod 191).tdiv 100) = ((sealN L / 100 : Nat) : Int) := wrap_i64 (a := ((sealN L / 100 : Nat) : Int)) (by omega) (by omega)
      have q2 : (IntKind.i64.wrap ((((smF L L.length : Nat) : Int).tmod 191).tdiv 10)).tmod 10 = ((sealN L / 10 % 10 : Nat) : Int) := by rw [show IntKind.i64.wrap ((((smF L L.length : Nat) : Int).tmod 191).tdiv 10) = ((sealN L / 10 : Nat) : Int) from wrap_i64 (a := ((sealN L / 10 : Nat) : Int)) (by omega) (by omega)]; rfl
      have q3 : (((smF L L.length : Nat) : Int).tmod 191).tmod 10 = ((sealN L % 10 : Nat) : Int) := rfl
      have d1 := decS_size (sealN L / 100)
      have d2 := decS_size (sealN L / 10 % 10)
      have d3 := decS_size (sealN L % 10)
      have e4 : (⟨#[101, 110, 100, 32]⟩ : ByteArray).size = 4 := rfl
      refine CallG.pure (sA (decS (sealN L / 100))) (fun H => q1 ▸ c_itoa (k := sealN L / 100) (by omega) H) ?_
      refine now_of (bin_add (by omega)) ?_
      refine CallG.pure (sA (decS (sealN L / 10 % 10))) (fun H => q2 ▸ c_itoa (k := sealN L / 10 % 10) (by omega) H) ?_
      refine now_of (bin_add (by rw [ByteArray.size_append]; omega)) ?_
      refine CallG.pure (sA (decS (sealN L % 10))) (fun H => q3 ▸ c_itoa (k := sealN L % 10) (by omega) H) ?_
      refine now_of (bin_add (by rw [ByteArray.size_append, ByteArray.size_append]; omega)) ?_
      refine ex_app _ _ (app_strO (L := L) (s := endS L) hL0 (by omega) rfl) ?_
      have htx := txF_size hs (i := L.length) (Nat.le_refl _)
      have hes : (endS L).size ≤ 10 := by
       unfold endS
       rw [ByteArray.size_append, ByteArray.size_append, ByteArray.size_append]
       omega
      have hjs : (joinS (L ++ [endS L]) ⟨#[10]⟩).size ≤ 16777216 := by
       rw [join_tx, ByteArray.size_append]
       omega
      refine CallG.pure _ (c_join (xs := L ++ [endS L]) _ (by rw [List.length_append, List.length_singleton]; omega) hjs) ?_
      have e1 : (⟨#[10]⟩ : ByteArray).size = 1 := rfl
      rw [← join_seal L]
      refine now_of (bin_add (by omega)) ?_
      exact ⟨.inl rfl, FinG.mk _ rfl rfl rfl⟩
end Go.Vm

namespace Go.Vm
open Go.Proofs
theorem BOk.low {b : Book} (h : BOk b) : LowB b := by
 obtain ⟨⟨hc, ht, hv⟩, hV⟩ := h
 unfold inI at hc ht hv
 refine ⟨⟨by omega, by omega⟩, ⟨by omega, by omega⟩, fun v hv st hst => ?_, ?_⟩
 ·obtain ⟨h1, h2⟩ := hV v hv
  obtain ⟨h3, h4⟩ := h1 st hst
  unfold inI at h2
  refine ⟨by omega, fun m hm => ?_⟩
  obtain ⟨h5, h6⟩ := h4 m hm
  unfold inI at h5 h6
  exact ⟨⟨by omega, by omega⟩, ⟨by omega, by omega⟩⟩
 ·have key : ∀ l : List Vers, (∀ v ∈ l, v.length ≤ 4) → (l.flatMap rowsV).length ≤ 5 * l.length := fun l hl => by
   induction l with
   | nil => exact Nat.le_refl _
   | cons v l ih =>
    have h1 := ih fun w hw => hl w (by simp [hw])
    have h2 := hl v (by simp)
    have h3 : (rowsV v).length = v.length + 1 := by
     show (v.map lineS1).length + 1 = _
     rw [List.length_map]
    rw [List.flatMap_cons, List.length_append, List.length_cons, h3]
    omega
  have := key b.vs fun v hv => by
   have := (hV v hv).2
   unfold inI at this
   omega
  show (b.vs.flatMap rowsV).length + 1 ≤ 1000
  omega
set_option maxRecDepth 100000 in
theorem c_Print {b : Book} (hl : BLen b) (hB : BOk b) (H : List Blk) : ACall Tryz.prog 82 [eBook b] H (.ret (.tup [sA (sealS (rowsB b)), .lit (.int .i64 0)])) H := by
 refine fn_rule (m := false) (fn := Tryz.f82) (c := (Tryz.f82.body).getD .skip) mixed (by kernel_rfl) (by kernel_rfl) (of_decide_eq_true (by kernel_rfl)) ?_ ?_ ?_ H
 ·exact ⟨under_eBook 0 _, trivial⟩
 ·exact ⟨trivial, trivial, trivial⟩
 ·refine CallG.bool (c_isBook hl) (fun _ => ?_) (fun x => absurd hB x)
  refine ifN ?_
  refine CallG.pure _ (c_text hB.low) ?_
  exact ⟨.inl rfl, FinG.mk _ rfl rfl rfl⟩
end Go.Vm

namespace Go.Vm
open Go.Proofs
set_option maxRecDepth 100000 in
theorem c_sameBooks {b : Book} (h1 : b.vs.length ≤ 1000000) (h2 : ∀ v ∈ b.vs, v.length ≤ 1000000 ∧ ∀ s ∈ v, s.length ≤ 1000000) (H : List Blk) : ACall Tryz.prog 85 [eBook b, eBook b] H (.ret (.lit (.bool true))) H := by
 refine fn_rule (m := false) (fn := Tryz.f85) (c := (Tryz.f85.body).getD .skip) mixed (by kernel_rfl) (by kernel_rfl) (of_decide_eq_true (by kernel_rfl)) ?_ ?_ ?_ H
 ·exact ⟨under_eBook 0 _, under_eBook 0 _, trivial⟩
 ·trivial
 ·refine If.mk (fun _ => ?_) (fun h => absurd (rfl) h)
  refine If.mk (fun _ => ?_) (fun h => absurd (rfl) h)
  refine If.mk (fun _ => ?_) (fun h => absurd (rfl) h)
  refine ifN ?_
  refine LoopG.at (n0 := 2) rfl (loop_up mixed (m := false) (fun r => [(2, .ptr 0 0), (3, .ptr 1 0), (5, n' r)]) (fun _ => [(0, bBox b), (1, bBox b)]) (fun _ => True) b.vs.length 2 (leb rfl) trivial ?_ ?_ ?_)
  ·exact ⟨wp rfl (ltb rfl), wp rfl (ltb rfl), wp rfl trivial, trivial⟩
  ·exact ⟨bk rfl rfl, bk rfl rfl, trivial⟩
  ·intro r hr _
   refine If.mk (fun h3 => ?_) (fun h3 => ?_)
   ·refine ifY ?_
    obtain ⟨v, hv⟩ : ∃ v, b.vs[r]? = some v := ⟨_, List.getElem?_eq_getElem (by omega)⟩
    obtain ⟨k1, k2⟩ := h2 v (List.mem_of_getElem? hv)
    refine Ex.mk _ (jx_versions (r := r) rfl hv) ?_
    refine Ex.mk _ rfl ?_
    refine Ex.mk _ (jx_versions (r := r) rfl hv) ?_
    refine Ex.mk _ rfl ?_
    refine CallG.bool (c_sameVersions v v k1 k2 k1 k2) (fun _ => ?_) (fun x => absurd rfl x)
    refine ifN ?_
    refine Side.mk (fits64 (by omega)) ?_
    exact ⟨leb rfl, rfl, by omega, trivial, ⟨wp rfl (ltb rfl), wp rfl (ltb rfl), wp rfl trivial, trivial⟩, ⟨bk rfl rfl, bk rfl rfl, trivial⟩, trivial⟩
   ·refine ifN ?_
    refine ⟨leb rfl, ?_⟩
    exact ⟨.inl rfl, FinG.mk _ rfl rfl rfl⟩
end Go.Vm

namespace Go.Vm
open Go.Proofs Go.RowKit
def spl (c : UInt8) : List UInt8 → List (List UInt8)
 | [] => [[]]
 | x :: l => if x = c then [] :: spl c l else match spl c l with
  | [] => [[x]]
  | h :: t => (x :: h) :: t
theorem spl_ne (c : UInt8) (l : List UInt8) : spl c l ≠ [] := by
 cases l with
 | nil => simp [spl]
 | cons x l =>
  unfold spl
  split
  ·simp
  ·split <;> simp
theorem spl_none {c : UInt8} : ∀ {l : List UInt8}, l.count c = 0 → spl c l = [l]
 | [], _ => rfl
 | x :: l, h => by
  by_cases e : x = c
  ·subst e
   rw [List.count_cons_self] at h
   omega
  ·rw [List.count_cons_of_ne (by simpa using e)] at h
   unfold spl
   rw [if_neg e, spl_none h]
def idxN (c : UInt8) : List UInt8 → Nat
 | [] => 0
 | x :: l => if x = c then 0 else idxN c l + 1
theorem spl_some {c : UInt8} : ∀ {l : List UInt8}, 0 < l.count c → idxN c l < l.length ∧ Lib.indexByte l c = (idxN c l : Int) ∧ spl c l = l.take (idxN c l) :: spl c (l.drop (idxN c l + 1)) ∧ (l.drop (idxN c l + 1)).count c + 1 = l.count c
 | [], h => by simp at h
 | x :: l, h => by
  by_cases e : x = c
  ·subst e
   have e0 : idxN x (x :: l) = 0 := if_pos rfl
   rw [e0]
   refine ⟨Nat.succ_pos _, ?_, ?_, ?_⟩
   ·unfold Lib.indexByte
    simp
   ·conv => lhs; unfold spl
    rw [if_pos rfl]
    rfl
   ·rw [List.count_cons_self]
    rfl
  ·rw [List.count_cons_of_ne (by simpa using e)] at h ⊢
   obtain ⟨h1, h2, h3, h4⟩ := spl_some h
   have e0 : idxN c (x :: l) = idxN c l + 1 := if_neg e
   rw [e0]
   refine ⟨by rw [List.length_cons]; omega, ?_, ?_, h4⟩
   ·unfold Lib.indexByte
    have hb : (x == c) = false := by simpa using e
    rw [hb, h2]
    have : ((idxN c l : Int) == -1) = false := by
     rw [beq_eq_false_iff_ne]
     omega
    simp [this]
   ·conv => lhs; unfold spl
    rw [if_neg e, h3]
    rfl
theorem spl_length (c : UInt8) : ∀ l : List UInt8, (spl c l).length = l.count c + 1
 | [] => rfl
 | x :: l => by
  have ih := spl_length c l
  unfold spl
  by_cases e : x = c
  ·subst e
   rw [if_pos rfl, List.length_cons, List.count_cons_self, ih]
  ·rw [if_neg e, List.count_cons_of_ne (by simpa using e)]
   cases hs : spl c l with
   | nil => exact absurd hs (spl_ne c l)
   | cons h t =>
    rw [hs] at ih
    exact ih
def bT (l : List UInt8) : ByteArray := ⟨l.toArray⟩
theorem bT_size (l : List UInt8) : (bT l).size = l.length := rfl
theorem bT_extract (l : List UInt8) (a b : Nat) : (bT l).extract a b = bT ((l.take b).drop a) := by
 apply bytes_ext
 show ((bT l).extract a b).data.toList = (l.take b).drop a
 rw [ByteArray.data_extract, Array.toList_extract]
 simp [bT, List.extract_eq_take_drop, List.drop_take]
theorem c_countB (l : List UInt8) (c : UInt8) (H : List Blk) : ACall Tryz.prog 213 [sA (bT l), sA ⟨#[c]⟩] H (.ret (n' (l.count c : Nat))) H :=
 ACall.of_pure (vs := [.string (bT l), .string ⟨#[c]⟩]) fun w => Tryz.strings_Count_one (bT l) c w
theorem c_indexB (l : List UInt8) (c : UInt8) (H : List Blk) : ACall Tryz.prog 214 [sA (bT l), sA ⟨#[c]⟩] H (.ret (n' (Lib.indexByte l c))) H :=
 ACall.of_pure (vs := [.string (bT l), .string ⟨#[c]⟩]) fun w => Tryz.strings_Index_one (bT l) c w
end Go.Vm
