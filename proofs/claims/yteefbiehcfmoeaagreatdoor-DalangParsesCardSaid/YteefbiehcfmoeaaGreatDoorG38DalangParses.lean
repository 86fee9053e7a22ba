/-
  Texts of the proof, part 38: the machine, contracts of functions, plain laws. (Own work.)
-/
import Derived.Test.YteefbiehcfmoeaaGreatDoorG33DalangParses
import Derived.Test.YteefbiehcfmoeaaGreatDoorG34DalangParses
import Derived.Test.YteefbiehcfmoeaaGreatDoorG35DalangParses
import Derived.Test.YteefbiehcfmoeaaGreatDoorG36DalangParses
import Derived.Test.YteefbiehcfmoeaaGreatDoorG37DalangParses

namespace Go.Vm
open Go.Proofs
def gK (r : Nat) : Nat := cntK.getD r 0
theorem stepsK : ∀ (r : Nat) (hr : r < lineK.length), stepB kKn sK sK' (eK r) (gK r) (eK (r + 1)) (gK (r + 1)) lineK[r] (ansK r) = true
 | 0, _ => ks0
 | 1, _ => ks1
 | 2, _ => ks2
 | 3, _ => ks3
 | 4, _ => ks4
 | 5, _ => ks5
 | 6, _ => ks6
 | 7, _ => ks7
 | 8, _ => ks8
 | 9, _ => ks9
 | 10, _ => ks10
 | 11, _ => ks11
 | 12, _ => ks12
 | 13, _ => ks13
 | 14, _ => ks14
 | 15, _ => ks15
 | 16, _ => ks16
 | 17, _ => ks17
 | 18, _ => ks18
 | 19, _ => ks19
 | 20, _ => ks20
 | 21, _ => ks21
 | 22, _ => ks22
 | 23, _ => ks23
 | 24, _ => ks24
 | 25, _ => ks25
 | 26, _ => ks26
 | 27, _ => ks27
 | 28, _ => ks28
 | 29, _ => ks29
 | 30, _ => ks30
 | 31, _ => ks31
 | 32, _ => ks32
 | 33, _ => ks33
 | 34, _ => ks34
 | 35, _ => ks35
 | 36, _ => ks36
 | 37, _ => ks37
 | 38, _ => ks38
 | 39, _ => ks39
 | r + 40, h => absurd h (by show ¬ r + 40 < 40; omega)
theorem under_sK : AV.unders 0 sK.cells := by
 have h : AV.undersB 0 sK.cells = true := by kernel_rfl
 exact underB_iff.2 _ h
theorem under_sK' : AV.unders 0 sK'.cells := by
 have h : AV.undersB 0 sK'.cells = true := by kernel_rfl
 exact underB_iff.2 _ h
theorem under_cellsK : AV.unders 0 cellsK := by
 have h : AV.undersB 0 cellsK = true := by kernel_rfl
 exact underB_iff.2 _ h
theorem under_entK (k : Nat) : (entK k).under 4 :=
 ⟨AV.unders_mem.2 fun a ha => AV.under_mono (by omega) a (AV.unders_mem.1 under_cellsK a (List.mem_of_mem_take ha)), ltb rfl⟩
theorem sK_av : sK.av = kv2 := by kernel_rfl
theorem sK'_av : sK'.av = kv1 := by kernel_rfl
theorem k17 : topB kKn 17 [] kv2 = true := by kernel_rfl
theorem lineK_nl : ∀ l ∈ lineK, 10 ∉ l := by
 have h : (lineK.all fun l => !l.contains 10) = true := by kernel_rfl
 intro l hl hm
 have h2 := List.all_eq_true.1 h l hl
 rw [Bool.not_eq_true', ← Bool.not_eq_true, List.contains_iff_mem] at h2
 exact h2 hm
theorem scr_le : (scr lineK).length ≤ 1000 := Nat.le_of_ble_eq_true (by kernel_rfl)
theorem out_le : ∀ r, r ≤ lineK.length → (outL ansK r).length ≤ 1000000 := by
 have h : ((List.range 41).all fun r => Nat.ble (outL ansK r).length 1000000) = true := by kernel_rfl
 intro r hr
 have hr : r ≤ 40 := hr
 exact Nat.le_of_ble_eq_true (List.all_eq_true.1 h r (List.mem_range.2 (by omega)))
theorem consoleK (H : List Blk) : ACall Tryz.prog 16 [sK.av, sA (bT (scr lineK))] H (.ret (.tup [sA (bT (outL ansK lineK.length)), n' 0])) H :=
 c_ConsoleG (E := eK) (G := gK) (ans := ansK) lineK_nl scr_le out_le under_sK (fun H => by rw [sK_av]; exact top_right mixed kD_right kr0 H) (fun H => by rw [sK_av, sK'_av]; exact top_right mixed (toldK_right rowsA_right) kr5 H) (by kernel_rfl) (by kernel_rfl) under_sK' (fun r => under_entK _)
  (fun r hr => step_right kKn_right under_sK under_sK' (under_entK _) (stepsK r hr)) H
set_option maxRecDepth 100000 in
theorem known_call (H : List Blk) : ACall Tryz.prog 6 [] H (.ret (.lit (.bool true))) H := by
 obtain ⟨X, hX⟩ : ∃ X, X = sA (bT (outL ansK lineK.length)) := ⟨_, rfl⟩
 refine fn_rule (m := false) (fn := Tryz.f6) (c := (Tryz.f6.body).getD .skip) mixed (by kernel_rfl) (by kernel_rfl) (of_decide_eq_true (by kernel_rfl)) ?_ ?_ ?_ H
 ·exact trivial
 ·exact trivial
 ·refine CallG.pure kv2 (fun H => top_right mixed kKn_right k17 H) ?_
  refine CallG.pure (.tup [X, n' 0]) (fun H => ?_) ?_
  ·rw [hX]
   refine Eq.mp (congrArg (fun a => ACall Tryz.prog 16 a H (.ret (.tup [sA (bT (outL ansK lineK.length)), n' 0])) H) ?_) (consoleK H)
   kernel_rfl
  refine If.mk (fun _ => ?_) (fun h => absurd (by decide) h)
  refine gBin_eqlX true hX (str_eq.2 (by kernel_rfl)) ?_
  exact ⟨.inl rfl, FinG.mk _ rfl rfl rfl⟩
end Go.Vm
