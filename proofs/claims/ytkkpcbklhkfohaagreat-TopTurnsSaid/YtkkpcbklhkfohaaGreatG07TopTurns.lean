/-
  Texts of the proof, part 7: the machine, contracts of functions, plain laws. (Own work.)
-/
import Derived.Test.YtkkpcbklhkfohaaGreatProg
import Derived.Tactics
import Derived.Tactics2
import Derived.Defers
import Derived.Recover
import Derived.Laws.Pointers
import Derived.KernelRfl
import Derived.WalkKit
import Derived.WalkSpells
import Derived.Laws.EntriesVeiled

namespace Go.Proofs
open Go.RowKit (wrap32 wrap64)
theorem tryCatch_idle (p : Addr) (w : World) :
  CallsD Tryz.prog 173 #[.pointer (some p)] .returning w fun e u' w' => e = .returned (.tuple #[]) ∧ u' = .returning ∧ w' = w := by
 refine callsD_of_wpS Tryz.func173 rfl fun c₀ cs hu => ?_
 apply wpS_seq
 apply wpS_region
 simp [wpOpsS, go_sem, recoverD, hu, Tryz.ntmps173, Exit.thenS]
 refine wpS_of_wp ?_
 go_wp2
 cases c₀
 simp_all [bodyPostS, results, Tryz.results173]
theorem try_fine (g : FuncId) (F C : Array Value) (w : World) (Q : Ending → World → Prop)
  (hg : ∀ w, (callFunc g (F ++ C)).run Tryz.prog w = .ok (.enter g (F ++ C)) w)
  (h : Calls Tryz.prog g (F ++ C) (w.alloc (.cells #[.int .i64 0] 40)) fun e w' => ∃ v z, e = .returned v ∧ w'.cell? ⟨w.heap.size, 0, none⟩ = some z ∧ w'.frozen? ⟨w.heap.size, 0, none⟩ = false ∧
   w.heap.size < w'.heap.size ∧ Q (.returned (.int .i64 0)) (w'.setCell ⟨w.heap.size, 0, none⟩ (.int .i64 0))) :
  Calls Tryz.prog 124 #[.func (.func g) F C] w Q := by
 have hmf : ∀ (fn : Fn) (first cap : Array Value) (w : World), (Instr.makeFunc fn first cap).run Tryz.prog w = .ok (.func fn first cap) w := fun _ _ _ _ => rfl
 go_enter_defers Tryz.func124, Tryz.ntmps124
 go_wp2_with fail
 refine h.mono ?_
 rintro e w' ⟨v, z, rfl, hc, hz, hs, hQ⟩
 have hcell : (w'.setCell ⟨w.heap.size, 0, none⟩ (.int .i64 0)).cell? ⟨w.heap.size, 0, none⟩ = some (.int .i64 0) := by
  simp [go_sem, hc]
 go_wp2
 refine leaves_cons (f := 173) (args := #[.pointer (some ⟨w.heap.size, 0, none⟩)]) (by simp) (by simp [go_sem]) ?_
 refine (tryCatch_idle ⟨w.heap.size, 0, none⟩ _).mono ?_
 rintro e u' w'' ⟨rfl, rfl, rfl⟩
 simp [Leaves, settle, results, Tryz.results124, go_sem, hc]
 exact hQ
end Go.Proofs
