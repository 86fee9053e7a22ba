/-
  Contracts of functions of the program that this claim reaches; no statement of the program is proved here. Conditions: none. (Texts of books: Print and Read together.)
-/
import Derived.Test.YtdhdaadoehbopaaGreatDoorEb
import Derived.Test.YtdhdaadoehbopaaGreatDoorEa
import Derived.Test.YtdhdaadoehbopaaGreatDoorVk

namespace Go.Vm
open Go.Proofs Go.RowKit
theorem line_size1 {l : List Nat} (h : ∀ x ∈ l, x < 10) : ∀ w : ByteArray, (lineS w l).size = w.size + 2 * l.length := by
 induction l with
 | nil => exact fun w => rfl
 | cons x l ih =>
  intro w
  have hx := h x (by simp)
  show (lineS (w ++ ⟨#[32]⟩ ++ decS x) l).size = _
  rw [ih (fun y hy => h y (by simp [hy])), ByteArray.size_append, ByteArray.size_append, List.length_cons]
  have e : (decS x).size = 1 := by
   unfold decS
   rw [if_pos hx]
   rfl
  rw [e]
  show w.size + 1 + 1 + _ = _
  omega
theorem flat_size (L : List (List UInt8)) (n : Nat) (h : ∀ a ∈ L, a.length ≤ n) : (L.flatMap fun a => a ++ [10]).length ≤ (n + 1) * L.length := by
 induction L with
 | nil => exact Nat.zero_le _
 | cons a L ih =>
  have h1 := ih fun x hx => h x (by simp [hx])
  have h2 := h a (by simp)
  rw [List.flatMap_cons, List.length_append, List.length_append]
  show a.length + 1 + _ ≤ (n + 1) * (L.length + 1)
  rw [Nat.mul_add]
  omega
theorem BOk.small {b : Book} (h : BOk b) : (lB (sealS (rowsB b))).length ≤ 450 := by
 obtain ⟨⟨hc, ht, hv⟩, hV⟩ := h
 unfold inI at hc ht hv
 have hc0 : sealN (rowsB b) < 191 := Nat.mod_lt _ (by decide)
 have dig : ∀ {n : Nat}, n < 10 → (lB (decS n)).length = 1 := fun {n} hn => by
  unfold decS
  rw [if_pos hn]
  rfl
 have hE : (sealE (rowsB b)).length = 7 := by
  unfold sealE
  rw [lB_app, lB_app, lB_app, List.length_append, List.length_append, List.length_append, dig (by omega), dig (by omega), dig (by omega)]
  rfl
 have hst : ∀ v ∈ b.vs, ∀ st ∈ v, (lB (lineS1 st)).length ≤ 21 := fun v hv st hst => by
  obtain ⟨h1, h2⟩ := hV v hv
  obtain ⟨h3, h4⟩ := h1 st hst
  unfold inI at h2
  have := line_size1 (l := flatM st) (fun x hx => by
   unfold flatM at hx
   obtain ⟨m, hm, hx⟩ := List.mem_flatMap.1 hx
   obtain ⟨h5, h6⟩ := h4 m hm
   unfold inI at h5 h6
   simp only [List.mem_cons, List.not_mem_nil, or_false] at hx
   rcases hx with rfl | rfl <;> omega) wState
  rw [flatM_length] at this
  have e : wState.size = 5 := rfl
  show (lineS1 st).size ≤ 21
  unfold lineS1
  omega
 have hver : ∀ v ∈ b.vs, (((rowsV v).map lB).flatMap fun a => a ++ [10]).length ≤ 96 := fun v hv => by
  have h2 := (hV v hv).2
  unfold inI at h2
  show ((lB wVersion :: (v.map lineS1).map lB).flatMap fun a => a ++ [10]).length ≤ 96
  rw [List.flatMap_cons, List.length_append]
  have := flat_size ((v.map lineS1).map lB) 21 (fun a ha => by
   obtain ⟨s, hs, rfl⟩ := List.mem_map.1 ha
   obtain ⟨st, hs2, rfl⟩ := List.mem_map.1 hs
   exact hst v hv st hs2)
  rw [List.length_map, List.length_map] at this
  have e : (lB wVersion ++ [10]).length = 8 := rfl
  omega
 have hall : ∀ l : List Vers, (∀ v ∈ l, (((rowsV v).map lB).flatMap fun a => a ++ [10]).length ≤ 96) → (((l.flatMap rowsV).map lB).flatMap fun a => a ++ [10]).length ≤ 96 * l.length := fun l => by
  induction l with
  | nil => intro _; exact Nat.zero_le _
  | cons v l ih =>
   intro h
   have h1 := ih fun x hx => h x (by simp [hx])
   have h2 := h v (by simp)
   rw [List.flatMap_cons, List.map_append, List.flatMap_append, List.length_append, List.length_cons]
   omega
 have h0 : (lB (lineS wBook [b.cues.toNat, b.tunes.toNat])).length = 8 := by
  have := line_size1 (l := [b.cues.toNat, b.tunes.toNat]) (fun x hx => by
   simp only [List.mem_cons, List.not_mem_nil, or_false] at hx
   rcases hx with rfl | rfl <;> omega) wBook
  exact this
 rw [lB_seal, List.length_append, List.length_append, hE]
 unfold rowsB
 rw [List.map_cons, List.flatMap_cons, List.length_append, List.length_append, h0]
 have := hall b.vs hver
 show 8 + 1 + _ + (7 + 1) ≤ 450
 omega
theorem c_sameLow {b : Book} (hb : LowB b) (H : List Blk) : ACall Tryz.prog 85 [eBook b, eBook b] H (.ret (.lit (.bool true))) H := by
 have h1 := hb.n
 have h2 := rowsV_length b.vs
 have h3 : (rowsB b).length = (b.vs.flatMap rowsV).length + 1 := rfl
 refine c_sameBooks (by omega) (fun v hv => ⟨?_, fun s hs => ?_⟩) H
 ·have e : (rowsV v).length = v.length + 1 := by
   show (v.map lineS1).length + 1 = _
   rw [List.length_map]
  obtain ⟨s, t, he⟩ := List.append_of_mem hv
  rw [he, List.flatMap_append, List.flatMap_cons, List.length_append, List.length_append] at h3
  omega
 ·have := (hb.m v hv s hs).1
  omega
end Go.Vm
