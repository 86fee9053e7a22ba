/-
  Texts of the proof, part 31: the machine, contracts of functions, plain laws. (Own work.)
-/
import Derived.Test.YteefbiehcfmoeaaGreatDoorG22DalangParses
import Derived.Test.YteefbiehcfmoeaaGreatDoorG23DalangParses

namespace Go.Vm
open Go.Proofs
noncomputable def AV.forgetK : AV → AV
 | .agg c => .agg (AV.forgets c)
 | .tup c => .tup (AV.forgets c)
 | .eptr c => .eptr (AV.forgets c)
 | .sl len cells tl => .sl len (AV.forgets cells) tl
 | a => a
theorem VRel.forgetK [Outer] {S : Sit} : ∀ (a : AV) (c : Value), VRel S a c → VRel S a.forgetK c := fun a c x => by
 cases a with
 | agg cells => have h := VRel.forget _ _ x; simp only [AV.forget] at h; exact h
 | tup cells => have h := VRel.forget _ _ x; simp only [AV.forget] at h; exact h
 | eptr cells => have h := VRel.forget _ _ x; simp only [AV.forget] at h; exact h
 | sl len cells tail =>
  show VRel S (.sl len (AV.forgets cells) tail) c
  simp only [VRel] at x ⊢
  obtain ⟨base, cap, hc, hle, hcells, ht⟩ := x
  refine ⟨base, cap, hc, hle, ?_, ?_⟩
  ·rcases hcells with hcells | ⟨b, o, hb', hf, hr⟩
   ·subst hcells; exact .inl rfl
   ·exact .inr ⟨b, o, hb', by rw [AV.forgets_length]; exact hf, VRow.forget b cells o hr⟩
  ·cases tail with
   | unk => trivial
   | full => exact ht
   | own id g sz => simpa only [AV.forgets_length] using ht
 | _ => exact x
noncomputable def AV.forgetsK (l : List AV) : List AV := l.map AV.forgetK
theorem VRels.forgetK [Outer] {S : Sit} : ∀ (l : List AV) (cs : List Value), VRels S l cs → VRels S (AV.forgetsK l) cs
 | [], cs, h => h
 | a :: l, [], h => by simp only [VRels] at h
 | a :: l, c :: cs, h => by
  simp only [VRels] at h
  show VRels S (a.forgetK :: AV.forgetsK l) (c :: cs)
  simp only [VRels]
  exact ⟨VRel.forgetK _ _ h.1, VRels.forgetK l cs h.2⟩
noncomputable def AV.sameK : AV → AV → Bool
 | .sl len cells (.own id g sz), .sl len' cells' (.own id' g' sz') => Nat.beq len len' && (AV.sames cells cells' && (Nat.beq id id' && (Nat.beq g g' && Nat.beq sz sz')))
 | a, b => AV.same a b
theorem AV.sameK_eq : ∀ (a b : AV), AV.sameK a b = true → a = b := fun a b h => by
 unfold AV.sameK at h
 split at h
 ·rw [Bool.and_eq_true, Bool.and_eq_true, Bool.and_eq_true, Bool.and_eq_true] at h
  obtain ⟨h1, h2, h3, h4, h5⟩ := h
  rw [Nat.eq_of_beq_eq_true h1, AV.sames_eq _ _ h2, Nat.eq_of_beq_eq_true h3, Nat.eq_of_beq_eq_true h4, Nat.eq_of_beq_eq_true h5]
 ·exact AV.same_eq _ _ h
noncomputable def AV.samesK : List AV → List AV → Bool
 | [], [] => true
 | a :: l, b :: m => AV.sameK a b && AV.samesK l m
 | _, _ => false
theorem AV.samesK_eq : ∀ (l m : List AV), AV.samesK l m = true → l = m
 | [], [], _ => rfl
 | a :: l, b :: m, h => by
  have h : (AV.sameK a b && AV.samesK l m) = true := h
  rw [Bool.and_eq_true] at h
  rw [AV.sameK_eq _ _ h.1, AV.samesK_eq _ _ h.2]
 | [], b :: m, h => by cases h
 | a :: l, [], h => by cases h
noncomputable def stepB (K : Know) (s s' : SuiteA) (e : AV) (g : Nat) (e' : AV) (g' : Nat) (line ans : List UInt8) : Bool := match (evN Tryz.prog K 60).1 41 [.ptr 2 0, sA (bT line)] (ofL (coP s s' e g)) 4 with
 | .ret v t' _ l => AV.same v (sA (bT ans)) && (Nat.ble 2 l && ((match get t' 2 with
  | some (.box c ty) => AV.samesK (AV.forgetsK c) (deskC s' e') && Nat.beq ty 55
  | _ => false) && (match get t' 3 with
  | some (.row k) => Nat.beq k g'
  | _ => false)))
 | _ => false
theorem step_right {K : Know} (hK : K.Right Tryz.prog) {s s' : SuiteA} {e e' : AV} {g g' : Nat} {line ans : List UInt8} (hu : AV.unders 0 s.cells) (hus : AV.unders 0 s'.cells) (he' : e'.under 4) (h : stepB K s s' e g e' g' line ans = true) :
  ACall Tryz.prog 41 [.ptr 2 0, sA (bT line)] (hp (coP s s' e g)) (.ret (sA (bT ans))) (hp (coP s s' e' g')) := by
 have hs := (evN_sound mixed hK 60).1 41 [.ptr 2 0, sA (bT line)] (ofL (coP s s' e g)) 4
 unfold stepB at h
 generalize (evN Tryz.prog K 60).1 41 [.ptr 2 0, sA (bT line)] (ofL (coP s s' e g)) 4 = r at h hs
 cases r with
 | fail w => cases h
 | pan v t n l => cases h
 | ret v t' n' l =>
  simp only at h
  rw [Bool.and_eq_true, Bool.and_eq_true, Bool.and_eq_true] at h
  obtain ⟨h1, h2, h3, h4⟩ := h
  have h2 := Nat.le_of_ble_eq_true h2
  have ev := AV.same_eq _ _ h1
  subst ev
  obtain ⟨H', hH', hc, hk⟩ := hs (hp (coP s s' e g)) (HT.full (l := coP s s' e g) ⟨rfl, rfl, rfl, rfl, trivial⟩ rfl)
  have hid3 : H'[3]? = some (.row g') := by
   cases hb : get t' 3 with
   | none => rw [hb] at h4; cases h4
   | some B =>
    rw [hb] at h4
    cases B with
    | row k =>
     have := Nat.eq_of_beq_eq_true h4
     subst this
     exact hH'.blk _ _ hb
    | _ => cases h4
  cases hb : get t' 2 with
  | none => rw [hb] at h3; cases h3
  | some B =>
   rw [hb] at h3
   cases B with
   | box c ty =>
    simp only at h3
    rw [Bool.and_eq_true] at h3
    have e1 := AV.samesK_eq _ _ h3.1
    have e2 := Nat.eq_of_beq_eq_true h3.2
    subst e2
    have hid := hH'.blk _ _ hb
    have hx := hc.boxL (cells' := deskC s' e') hid fun O ι w cs h => by rw [← e1]; exact VRels.forgetK _ _ h
    have hlen : 4 ≤ H'.length := by have := hk.le; exact this
    have hl3 : (hp (coP s s' e g)).length = 4 := rfl
    have hcut : (H'.set 2 (.box (deskC s' e') 55)).take (hp (coP s s' e g)).length = hp (coP s s' e' g') := by
     refine List.ext_getElem? fun i => ?_
     rw [hl3]
     by_cases hi : i < 4
     ·rw [List.getElem?_take_of_lt hi]
      rcases show i = 0 ∨ i = 1 ∨ i = 2 ∨ i = 3 by omega with rfl | rfl | rfl | rfl
      ·rw [List.getElem?_set_ne (by omega), hk.low 0 (by omega) (by rw [hl3]; omega)]; rfl
      ·rw [List.getElem?_set_ne (by omega), hk.low 1 (by omega) (by rw [hl3]; omega)]; rfl
      ·rw [List.getElem?_set_self (by omega)]; rfl
      ·rw [List.getElem?_set_ne (by omega), hid3]; rfl
     ·rw [List.getElem?_eq_none (by rw [List.length_take]; omega), List.getElem?_eq_none (by show 4 ≤ i; omega)]
    have h4 := hx.cut (by exact trivial) (by
     rw [hcut]
     intro B hB
     obtain ⟨q, hq, rfl⟩ := List.mem_map.1 hB
     exact under_coP hu hus he' q hq)
    rw [hcut] at h4
    exact h4
   | _ => cases h3
end Go.Vm
