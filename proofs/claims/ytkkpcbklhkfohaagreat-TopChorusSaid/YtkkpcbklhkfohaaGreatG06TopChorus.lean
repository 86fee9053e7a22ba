/-
  Texts of the proof, part 6: the machine, contracts of functions, plain laws. (Own work.)
-/
import Derived.Test.YtkkpcbklhkfohaaGreatG05TopChorus
import Derived.OrdersIn
import Derived.RangeFuncIn

namespace Go.Vm
variable {P : Program} [Outer]
structure St where
 n : Nat
 vars : Trie AV
 H : List Blk
 defs : List Nat := []
noncomputable def St.eval (σ : St) : Operand → Option AV
 | .tmp t => get σ.vars t
 | .const v => some (.lit v)
 | .func f => some (.lit (.func (.func f) #[] #[]))
 | .global _ => none
def DefRel (S : Sit) : List Nat → List Deferred → Prop
 | [], [] => True
 | id :: ids, d :: ds => (∃ b wm, S.ι id = some (b, wm) ∧ S.H[id]? = some .defd ∧ d = { target := .collected b, args := #[] }) ∧ DefRel S ids ds
 | _, _ => False
structure SRel (σ : St) (ι : Nat → Option (Nat × Nat)) (a : Act) (w : World) : Prop where
 rel : Rel ⟨σ.H, ι, w⟩
 size : a.tmps.size = σ.n
 vars : VarsRel ⟨σ.H, ι, w⟩ σ.vars a.tmps
 defs : DefRel ⟨σ.H, ι, w⟩ σ.defs a.defers
inductive AExit where
 | normal
 | exit (id : Nat)
 | ret
 | pan (v : AV)
def ExRel (S : Sit) : AExit → Exit → Prop
 | .normal, .normal => True
 | .exit i, .exit j => i = j
 | .ret, .ret => True
 | .pan v, .panic chain => ∃ c, chain = [{ v := c, recovered := false }] ∧ VRel S v c
 | _, _ => False
def Fr (ro : Option Nat) : Fence := { Fence.wide with round := ro }
def RoRel (S : Sit) (ro : Option Nat) (cro : Option Nat) : Prop :=
 match ro with
 | none => cro = none
 | some id => ∃ b wm, S.ι id = some (b, wm) ∧ notRow S.H id ∧ cro = some b
theorem RoRel.ev {S S' : Sit} (h : Ev S S') {ro cro : Option Nat} (x : RoRel S ro cro) : RoRel S' ro cro := by
 cases ro with
 | none => exact x
 | some id =>
  obtain ⟨b, wm, hi, hn, hc⟩ := x
  obtain ⟨hn', e⟩ := h.ptr id hn
  obtain ⟨wm', e'⟩ := e b wm hi
  exact ⟨b, wm', e', hn', hc⟩
def Post (S : Sit) (e : AExit) (σ' : St) : Exit → Act → World → Prop := fun e' a' w' =>
 ∃ ι', ExRel ⟨σ'.H, ι', w'⟩ e e' ∧ SRel σ' ι' a' w' ∧ Ev S ⟨σ'.H, ι', w'⟩ ∧ Non S ⟨σ'.H, ι', w'⟩
def Run (P : Program) (ro : Option Nat) (c : Code) (σ : St) (e : AExit) (σ' : St) : Prop :=
 ∀ (_ : Outer) ι a w cro, RoRel ⟨σ.H, ι, w⟩ ro cro → SRel σ ι a w → c.wpIn (Fr cro) 0 P (Post ⟨σ.H, ι, w⟩ e σ') a w
inductive AEnd where
 | ret (v : AV)
 | pan (v : AV)
def EndRel (S : Sit) : AEnd → Ending → Prop
 | .ret v, .returned c => VRel S v c
 | .pan v, .panicked chain => ∃ c, chain = [{ v := c, recovered := false }] ∧ VRel S v c
 | _, _ => False
def EPost (S : Sit) (r : AEnd) (H' : List Blk) : Ending → World → Prop := fun e w' =>
 ∃ ι', EndRel ⟨H', ι', w'⟩ r e ∧ Rel ⟨H', ι', w'⟩ ∧ Ev S ⟨H', ι', w'⟩ ∧ Non S ⟨H', ι', w'⟩
def ACall (P : Program) (f : FuncId) (args : List AV) (H : List Blk) (r : AEnd) (H' : List Blk) : Prop :=
 ∀ (_ : Outer) ι w (cs : Array Value), Rel ⟨H, ι, w⟩ → VRels ⟨H, ι, w⟩ args cs.toList → CallsIn (Fr none) 0 P f cs w (EPost ⟨H, ι, w⟩ r H')
def ARound (P : Program) (id : Nat) (args : List AV) (H : List Blk) (r : AEnd) (H' : List Blk) : Prop :=
 ∀ (_ : Outer) ι w b wm L (cs : Array Value), Rel ⟨H, ι, w⟩ → ι id = some (b, wm) → notRow H id → w.heap[b]? = some (.loop L) → cs.size = L.params.size → VRels ⟨H, ι, w⟩ args cs.toList →
  RoundIn (Fr none) 0 P b L.fn ((L.params.zip cs).foldl (fun tmps (t, a) => tmps.setIfInBounds t a) L.tmps) L.assign L.body w (EPost ⟨H, ι, w⟩ r H')
theorem DefRel.ev {S S' : Sit} (h : Ev S S') (hd : ∀ id : Nat, S.H[id]? = some Blk.defd → S'.H[id]? = some Blk.defd) : ∀ {ids : List Nat} {ds : List Deferred}, DefRel S ids ds → DefRel S' ids ds
 | [], [], _ => trivial
 | [], _ :: _, x => x.elim
 | _ :: _, [], x => x.elim
 | id :: ids, d :: ds, x => by
  obtain ⟨⟨b, wm, hi, hB, hx⟩, x2⟩ := x
  obtain ⟨_, e⟩ := h.ptr id ⟨.defd, hB, rfl⟩
  obtain ⟨wm', e'⟩ := e b wm hi
  exact ⟨⟨b, wm', e', hd id hB, hx⟩, DefRel.ev h hd x2⟩
theorem Post.trans {S S' : Sit} (h : Ev S S') (hn : Non S S') {e : AExit} {σ' : St} : ∀ e' a' w', Post S' e σ' e' a' w' → Post S e σ' e' a' w' :=
 fun _ _ _ ⟨ι', h1, h2, h3, h4⟩ => ⟨ι', h1, h2, h.trans h3, hn.trans h h4⟩
section
variable {ro : Option Nat} {σ σ1 σ' : St} {e : AExit}
omit [Outer] in
theorem Run.skip : Run P ro .skip σ .normal σ := fun _ ι _ _ _ _ h => wpIn_skip ⟨ι, trivial, h, Ev.refl _, Non.refl _⟩
omit [Outer] in
theorem Run.exit {i : Nat} : Run P ro (.exit i) σ (.exit i) σ := fun _ ι _ _ _ _ h => wpIn_exit ⟨ι, rfl, h, Ev.refl _, Non.refl _⟩
omit [Outer] in
theorem Run.ret : Run P ro .ret σ .ret σ := fun _ ι _ _ _ _ h => wpIn_ret ⟨ι, trivial, h, Ev.refl _, Non.refl _⟩
omit [Outer] in
theorem Run.label {l : Nat} : Run P ro (.label l) σ .normal σ := fun _ ι _ _ _ _ h => wpIn_label ⟨ι, trivial, h, Ev.refl _, Non.refl _⟩
omit [Outer] in
theorem Run.seq {x y : Code} (h1 : Run P ro x σ .normal σ1) (h2 : Run P ro y σ1 e σ') : Run P ro (.seq x y) σ e σ' := by
 intro O ι a w cro hro h
 refine wpIn_seq (wpIn_mono (h1 _ ι a w cro hro h) ?_)
 rintro e1 a1 w1 ⟨ι1, hx, hs, hev, hnon⟩
 cases e1 <;> first
  | exact wpIn_mono (h2 _ ι1 a1 w1 cro (hro.ev hev) hs) (Post.trans hev hnon)
  | exact hx.elim
def AExit.isNormal : AExit → Bool
 | .normal => true
 | _ => false
omit [Outer] in
theorem Run.seq_out {x y : Code} (h1 : Run P ro x σ e σ') (he : e.isNormal = false) : Run P ro (.seq x y) σ e σ' := by
 intro O ι a w cro hro h
 refine wpIn_seq (wpIn_mono (h1 _ ι a w cro hro h) ?_)
 rintro e1 a1 w1 hp
 cases e1 with
 | normal =>
  obtain ⟨ι1, hx, _⟩ := hp
  cases e <;> first | (cases he; done) | exact hx.elim
 | _ => exact hp
omit [Outer] in
theorem Run.cond {c : Operand} {x y : Code} {t : Bool} (hc : σ.eval c = some (.lit (.bool t))) (h : Run P ro (if t then x else y) σ e σ') : Run P ro (.cond c x y) σ e σ' := by
 intro O ι a w cro hro hs
 refine wpIn_cond (t := t) ?_ (h _ ι a w cro hro hs)
 cases c with
 | tmp k =>
  obtain ⟨d, hd, hr⟩ := hs.vars k _ hc
  simp only [VRel] at hr
  simp [Act.eval, hd, hr]
 | const v => simp only [St.eval, Option.some.injEq, AV.lit.injEq] at hc; subst hc; rfl
 | func f => simp [St.eval] at hc
 | global g => simp [St.eval] at hc
omit [Outer] in
theorem Run.block {i : Nat} {c : Code} (h : Run P ro c σ e σ') (he : e = .normal ∨ e = .exit i) : Run P ro (.block i c) σ .normal σ' := by
 intro O ι a w cro hro hs
 refine wpIn_block (wpIn_mono (h _ ι a w cro hro hs) ?_)
 rintro e1 a1 w1 ⟨ι1, hx, hr⟩
 rcases he with rfl | rfl
 ·cases e1 <;> first | exact ⟨ι1, trivial, hr⟩ | exact hx.elim
 ·cases e1 with
  | exit j =>
   have : i = j := hx
   subst this
   simp only [Exit.inBlock, if_true]
   exact ⟨ι1, trivial, hr⟩
  | _ => exact hx.elim
def AExit.passes (i : Nat) : AExit → Bool
 | .normal => false
 | .exit j => j != i
 | _ => true
omit [Outer] in
theorem Run.block_out {i : Nat} {c : Code} (h : Run P ro c σ e σ') (he : e.passes i = true) : Run P ro (.block i c) σ e σ' := by
 intro O ι a w cro hro hs
 refine wpIn_block (wpIn_mono (h _ ι a w cro hro hs) ?_)
 rintro e1 a1 w1 hp
 obtain ⟨ι1, hx, hr⟩ := hp
 cases e with
 | normal => cases he
 | exit j =>
  cases e1 with
  | exit k =>
   have hjk : j = k := hx
   subst hjk
   simp only [AExit.passes, bne_iff_ne, ne_eq] at he
   simp only [Exit.inBlock, if_neg he]
   exact ⟨ι1, rfl, hr⟩
  | _ => exact hx.elim
 | ret => cases e1 <;> first | exact ⟨ι1, trivial, hr⟩ | exact hx.elim
 | pan v => cases e1 <;> first | exact ⟨ι1, hx, hr⟩ | exact hx.elim
def InL (P : Program) (ro : Option Nat) (c : Code) (σ : St) (e : AExit) (σ' : St) : Prop :=
 ∀ (_ : Outer) ι a w cro, RoRel ⟨σ.H, ι, w⟩ ro cro → SRel σ ι a w → ∀ (b : Frame) (k : List Item) (cs : List Frame), b.roundOf = (Fr cro).round → (Fr cro).fn b.fn → (Fr cro).room (cs.length + 1 + 0) →
  ∃ e' a' w', Post ⟨σ.H, ι, w⟩ e σ' e' a' w' ∧ ArrivesIn (Machine.fenced P (Fr cro)) P (lone (b.atR a (.code c :: .inLoop c :: k)) cs w) b k cs e' a' w'
omit [Outer] in
theorem Run.loop {c : Code} (h : InL P ro c σ e σ') : Run P ro (.loop c) σ e σ' := by
 intro O ι a w cro hro hs b k cs hbro hb hr
 obtain ⟨e1, a1, w1, hp, harr⟩ := h _ ι a w cro hro hs b k cs hbro hb hr
 exact ⟨e1, a1, w1, hp, .of_steps (.one (fenced_calm hb hr rfl) stepR_loop) harr⟩
omit [Outer] in
theorem InL.go {c : Code} (h1 : Run P ro c σ .normal σ1) (h2 : InL P ro c σ1 e σ') : InL P ro c σ e σ' := by
 intro O ι a w cro hro hs b k cs hbro hb hr
 obtain ⟨e1, a1, w1, ⟨ι1, hx, hs1, hev, hnon⟩, harr⟩ := h1 _ ι a w cro hro hs b (.inLoop c :: k) cs hbro hb hr
 cases e1 with
 | normal =>
  obtain ⟨e2, a2, w2, hp2, harr2⟩ := h2 _ ι1 a1 w1 cro (hro.ev hev) hs1 b k cs hbro hb hr
  exact ⟨e2, a2, w2, Post.trans hev hnon _ _ _ hp2, .of_steps (StepsIn.trans harr (.one (fenced_calm hb hr rfl) stepR_inLoop)) harr2⟩
 | _ => exact hx.elim
omit [Outer] in
theorem InL.out {c : Code} (h1 : Run P ro c σ e σ') (he : e.isNormal = false) : InL P ro c σ e σ' := by
 intro O ι a w cro hro hs b k cs hbro hb hr
 obtain ⟨e1, a1, w1, hp, harr⟩ := h1 _ ι a w cro hro hs b (.inLoop c :: k) cs hbro hb hr
 refine ⟨e1, a1, w1, hp, ?_⟩
 cases e1 with
 | normal =>
  obtain ⟨ι1, hx, _⟩ := hp
  cases e <;> first | (cases he; done) | exact hx.elim
 | _ => exact .pass (x := .inLoop c) rfl (fun _ _ => .inl (by simp)) harr
end
noncomputable def putA (σ : St) (dst : Option Tmp) (v : AV) (H : List Blk) : Option St :=
 match dst with
 | none => some { σ with H := H }
 | some d => if d < σ.n then some { σ with vars := set σ.vars d v, H := H } else none
def keepsD (H H' : List Blk) : Prop := ∀ id : Nat, H[id]? = some Blk.defd → H'[id]? = some Blk.defd
theorem SRel.put {σ σ1 : St} {ι ι' : Nat → Option (Nat × Nat)} {a : Act} {w w' : World} {dst : Option Tmp} {v : AV} {c : Value} {H' : List Blk} (hs : SRel σ ι a w)
  (hR : Rel ⟨H', ι', w'⟩) (hev : Ev ⟨σ.H, ι, w⟩ ⟨H', ι', w'⟩) (hd : keepsD σ.H H') (hv : VRel ⟨H', ι', w'⟩ v c) (h : putA σ dst v H' = some σ1) : SRel σ1 ι' (a.put dst c) w' := by
 unfold putA at h
 cases dst with
 | none =>
  simp only [Option.some.injEq] at h; subst h
  exact ⟨hR, hs.size, hs.vars.ev hev, hs.defs.ev hev hd⟩
 | some d =>
  simp only at h
  split at h
  ·rename_i hlt
   simp only [Option.some.injEq] at h; subst h
   refine ⟨hR, by simp [Act.put, hs.size], ?_, hs.defs.ev hev hd⟩
   exact (hs.vars.ev hev).set (by rw [hs.size]; exact hlt) hv
  ·cases h
noncomputable def wantedA (ops : Array Oper) (vars : Trie AV) (o : Oper) : Option Bool :=
 match o.guard with
 | none => some true
 | some (j, want) =>
  match (ops[j]?).bind (·.dst) with
  | none => none
  | some t => match get vars t with
   | some (.lit (.bool b)) => some (b == want)
   | some (.lit (.tuple _)) => some false
   | _ => none
theorem wantedA_sound {S : Sit} {ops : Array Oper} {vars : Trie AV} {tmps : Array Value} (hv : VarsRel S vars tmps) {o : Oper} {b : Bool} (h : wantedA ops vars o = some b) :
  Region.wanted o (yielded ops tmps) = b := by
 unfold wantedA at h
 unfold Region.wanted
 cases hg : o.guard with
 | none => rw [hg] at h; simpa using h
 | some p =>
  obtain ⟨j, want⟩ := p
  rw [hg] at h
  simp only at h ⊢
  cases hd : (ops[j]?).bind (·.dst) with
  | none => simp [hd] at h
  | some t =>
   simp only [hd] at h
   split at h
   ·rename_i b' hb
    obtain ⟨c, hc, hr⟩ := hv t _ hb
    simp only [VRel] at hr; subst hr
    cases h
    unfold yielded
    simp only [hd, Option.bind_some, hc]
    cases b' <;> cases want <;> rfl
   ·rename_i vs hb
    obtain ⟨c, hc, hr⟩ := hv t _ hb
    simp only [VRel] at hr; subst hr
    cases h
    unfold yielded
    simp only [hd, Option.bind_some, hc]
    rfl
   ·cases h
theorem St.eval_sound {σ : St} {ι : Nat → Option (Nat × Nat)} {a : Act} {w : World} (hs : SRel σ ι a w) : ∀ x v, σ.eval x = some v → VRel ⟨σ.H, ι, w⟩ v (a.eval x) := by
 intro x v h
 cases x with
 | tmp k =>
  obtain ⟨c, hc, hr⟩ := hs.vars k v h
  simpa [Act.eval, hc] using hr
 | const u => simp only [St.eval, Option.some.injEq] at h; subst h; simp [VRel, Act.eval]
 | func f => simp only [St.eval, Option.some.injEq] at h; subst h; simp [VRel, Act.eval]
 | global g => simp [St.eval] at h
inductive AStep (P : Program) (ops : Array Oper) (i : Nat) (σ : St) : St → Prop where
  | val {m : Bool} {o : Oper} {v : AV} {H' : List Blk} {σ1 : St} (ho : ops[i]? = some o) (hw : wantedA ops σ.vars o = some true) (ha : aop P m σ.H σ.eval o = some (.val v H')) (hd : keepsD σ.H H')
      (hp : putA σ o.dst v H' = some σ1) : AStep P ops i σ σ1
  | skip {o : Oper} {σ1 : St} (ho : ops[i]? = some o) (hw : wantedA ops σ.vars o = some false) (hp : putA σ o.dst (.lit undef) σ.H = some σ1) : AStep P ops i σ σ1
  | call {m : Bool} {o : Oper} {f : FuncId} {args : List AV} {v : AV} {H' : List Blk} {σ1 : St} (ho : ops[i]? = some o) (hw : wantedA ops σ.vars o = some true) (ha : aop P m σ.H σ.eval o = some (.call f args))
      (hcal : callable P f = true) (hc : ACall P f args σ.H (.ret v) H') (hd : keepsD σ.H H') (hp : putA σ o.dst v H' = some σ1) : AStep P ops i σ σ1
  | round {m : Bool} {o : Oper} {id : Nat} {args : List AV} {v : AV} {H' : List Blk} {σ1 : St} (ho : ops[i]? = some o) (hw : wantedA ops σ.vars o = some true) (ha : aop P m σ.H σ.eval o = some (.round id args))
      (hc : ARound P id args σ.H (.ret v) H') (hd : keepsD σ.H H') (hp : putA σ o.dst v H' = some σ1) : AStep P ops i σ σ1
omit [Outer] in
theorem aop_noDefer {m : Bool} {H : List Blk} {ρ : Operand → Option AV} {o : Oper} {r : AR} (h : aop P m H ρ o = some r) : ∀ c, o.op ≠ .defer c := by
 intro c hc
 obtain ⟨dst, op, type, pos, after, guard⟩ := o
 subst hc
 simp [aop] at h
omit [Outer] in
theorem Fr_fn (ro : Option Nat) (f : FuncId) : (Fr ro).fn f := trivial
omit [Outer] in
theorem Fr_depth (ro : Option Nat) : (Fr ro).depth = none := rfl
theorem AStep.sound {ops : Array Oper} {i : Nat} {σ σ1 : St} (h : AStep P ops i σ σ1) {ι : Nat → Option (Nat × Nat)} {a : Act} {w : World} {cro : Option Nat} (hs : SRel σ ι a w)
  {Q : Exit → Act → World → Prop} {K : Act → World → Prop}
  (hK : ∀ ι' a' w', SRel σ1 ι' a' w' → Ev ⟨σ.H, ι, w⟩ ⟨σ1.H, ι', w'⟩ → Non ⟨σ.H, ι, w⟩ ⟨σ1.H, ι', w'⟩ → K a' w') : wpOpIn (Fr cro) 0 P ops Q i K a w := by
 unfold wpOpIn
 have hput : ∀ {dst : Option Tmp} {v : AV} {H' : List Blk}, putA σ dst v H' = some σ1 → σ1.H = H' := by
  intro dst v H' hp
  unfold putA at hp
  cases dst with
  | none => simp only [Option.some.injEq] at hp; subst hp; rfl
  | some d => simp only at hp; split at hp <;> first | (simp only [Option.some.injEq] at hp; subst hp; rfl) | cases hp
 cases h with
 | skip ho hw hp =>
  simp only [ho]
  rw [wantedA_sound hs.vars hw]
  simp only [Bool.false_eq_true, if_false]
  refine ⟨fun _ _ => Fr_fn _ _, ?_⟩
  have hH := hput hp
  refine hK ι _ w (hs.put hs.rel (Ev.refl _) (fun _ h => h) (by simp [VRel]) hp) ?_ ?_
  ·rw [hH]; exact Ev.refl _
  ·rw [hH]; exact Non.refl _
 | val ho hw ha hd hp =>
  rename_i o v H'
  simp only [ho]
  rw [wantedA_sound hs.vars hw]
  simp only [if_true]
  refine ⟨fun _ _ => Fr_fn _ _, ?_⟩
  have hH := hput hp
  have hok := aop_sound hs.rel (St.eval_sound hs) ha
  rw [Oper.semAt_eq _ _ _ (aop_noDefer ha)]
  obtain ⟨c, ι', w', hx, hR, hev, hnon, hv⟩ := hok
  rcases hx with hx | ⟨hx, rfl⟩
  ·rw [hx]
   exact hK ι' _ w' (hs.put hR hev hd hv hp) (by rw [hH]; exact hev) (by rw [hH]; exact hnon)
  ·rw [hx]
   exact hK ι' _ w' (hs.put hR hev hd hv hp) (by rw [hH]; exact hev) (by rw [hH]; exact hnon)
 | call ho hw ha hcal hc hd hp =>
  rename_i o f args v H'
  simp only [ho]
  rw [wantedA_sound hs.vars hw]
  simp only [if_true]
  refine ⟨fun _ _ => Fr_fn _ _, ?_⟩
  have hH := hput hp
  obtain ⟨cs, hx, hargs⟩ := aop_sound hs.rel (St.eval_sound hs) ha hcal
  rw [Oper.semAt_eq _ _ _ (aop_noDefer ha), hx]
  refine ⟨fun h => (by simp [Fr_depth] at h), ?_⟩
  have hcall : CallsIn (Fr cro) 0 P f cs w (EPost ⟨σ.H, ι, w⟩ (.ret v) H') := hc _ ι w cs hs.rel hargs
  refine hcall.mono ?_
  rintro e w' ⟨ι', hend, hR, hev, hnon⟩
  cases e with
  | returned c => exact hK ι' _ w' (hs.put hR hev hd hend hp) (by rw [hH]; exact hev) (by rw [hH]; exact hnon)
  | panicked chain => exact hend.elim
  | outgrown => exact hend.elim
 | round ho hw ha hc hd hp =>
  rename_i o id args v H'
  simp only [ho]
  rw [wantedA_sound hs.vars hw]
  simp only [if_true]
  refine ⟨fun _ _ => Fr_fn _ _, ?_⟩
  have hH := hput hp
  obtain ⟨b, wm, L, cs, hi, hn, hL, hsz, hx, hargs⟩ := aop_sound hs.rel (St.eval_sound hs) ha
  rw [Oper.semAt_eq _ _ _ (aop_noDefer ha), hx]
  refine ⟨fun h => (by simp [Fr_depth] at h), ?_⟩
  have hround := hc _ ι w b wm L cs hs.rel hi hn hL hsz hargs
  refine RoundIn.mono (F := Fr cro) hround ?_
  rintro e w' ⟨ι', hend, hR, hev, hnon⟩
  cases e with
  | returned c => exact hK ι' _ w' (hs.put hR hev hd hend hp) (by rw [hH]; exact hev) (by rw [hH]; exact hnon)
  | panicked chain => exact hend.elim
  | outgrown => exact hend.elim
inductive APath (P : Program) (ops : Array Oper) : List Nat → St → St → Prop where
 | nil {σ : St} : APath P ops [] σ σ
 | cons {i : Nat} {l : List Nat} {σ σ1 σ2 : St} (h : AStep P ops i σ σ1) (t : APath P ops l σ1 σ2) : APath P ops (i :: l) σ σ2
theorem APath.sound {ops : Array Oper} {cro : Option Nat} {S0 : Sit} : ∀ {l : List Nat} {σ σ' : St}, APath P ops l σ σ' → ∀ {ι : Nat → Option (Nat × Nat)} {a : Act} {w : World}, SRel σ ι a w →
  Ev S0 ⟨σ.H, ι, w⟩ → Non S0 ⟨σ.H, ι, w⟩ → wpOpsIn (Fr cro) 0 P ops (Post S0 .normal σ') l a w
 | _, _, _, .nil, ι, _, _, hs, hev, hnon => by
  simp only [wpOpsIn]
  exact ⟨ι, trivial, hs, hev, hnon⟩
 | _, _, _, .cons h t, ι, a, w, hs, hev, hnon => by
  rw [wpOpsIn_cons]
  exact h.sound hs fun ι1 a1 w1 hs1 hev1 hnon1 => APath.sound t hs1 (hev.trans hev1) (hnon.trans hev hnon1)
omit [Outer] in
theorem Run.region {ro : Option Nat} {id : Nat} {ops : Array Oper} {σ σ' : St} (h : APath P ops (List.range ops.size) σ σ') : Run P ro (.region id ops false) σ .normal σ' :=
 fun _ _ _ _ _ _ hs => wpIn_region (h.sound hs (Ev.refl _) (Non.refl _))
inductive APanics (P : Program) (ops : Array Oper) : List Nat → St → AV → St → Prop where
  | op {m : Bool} {i : Nat} {l : List Nat} {σ : St} {o : Oper} {v : AV} (ho : ops[i]? = some o) (hw : wantedA ops σ.vars o = some true) (ha : aop P m σ.H σ.eval o = some (.pan v)) : APanics P ops (i :: l) σ v σ
  | call {m : Bool} {i : Nat} {l : List Nat} {σ : St} {o : Oper} {f : FuncId} {args : List AV} {v : AV} {H' : List Blk} (ho : ops[i]? = some o) (hw : wantedA ops σ.vars o = some true)
      (ha : aop P m σ.H σ.eval o = some (.call f args)) (hcal : callable P f = true) (hc : ACall P f args σ.H (.pan v) H') (hd : keepsD σ.H H') : APanics P ops (i :: l) σ v { σ with H := H' }
  | cons {i : Nat} {l : List Nat} {σ σ1 σ2 : St} {v : AV} (h : AStep P ops i σ σ1) (t : APanics P ops l σ1 v σ2) : APanics P ops (i :: l) σ v σ2
theorem APanics.sound {ops : Array Oper} {cro : Option Nat} {S0 : Sit} {v : AV} : ∀ {l : List Nat} {σ σ' : St}, APanics P ops l σ v σ' → ∀ {ι : Nat → Option (Nat × Nat)} {a : Act} {w : World}, SRel σ ι a w →
  Ev S0 ⟨σ.H, ι, w⟩ → Non S0 ⟨σ.H, ι, w⟩ → wpOpsIn (Fr cro) 0 P ops (Post S0 (.pan v) σ') l a w
 | _, σ, _, .op ho hw ha, ι, a, w, hs, hev, hnon => by
  rw [wpOpsIn_cons]
  unfold wpOpIn
  simp only [ho]
  rw [wantedA_sound hs.vars hw]
  simp only [if_true]
  refine ⟨fun _ _ => Fr_fn _ _, ?_⟩
  obtain ⟨c, hx, hv⟩ := aop_sound hs.rel (St.eval_sound hs) ha
  rw [Oper.semAt_eq _ _ _ (aop_noDefer ha), hx]
  exact ⟨ι, ⟨c, rfl, hv⟩, hs, hev, hnon⟩
 | _, σ, _, .call (H' := H') ho hw ha hcal hc hd, ι, a, w, hs, hev, hnon => by
  rw [wpOpsIn_cons]
  unfold wpOpIn
  simp only [ho]
  rw [wantedA_sound hs.vars hw]
  simp only [if_true]
  refine ⟨fun _ _ => Fr_fn _ _, ?_⟩
  obtain ⟨cs, hx, hargs⟩ := aop_sound hs.rel (St.eval_sound hs) ha hcal
  rw [Oper.semAt_eq _ _ _ (aop_noDefer ha), hx]
  refine ⟨fun h => (by simp [Fr_depth] at h), ?_⟩
  have hcall : CallsIn (Fr cro) 0 P _ cs w (EPost ⟨σ.H, ι, w⟩ (.pan v) H') := hc _ ι w cs hs.rel hargs
  refine hcall.mono ?_
  rintro e w' ⟨ι', hend, hR, hev', hnon'⟩
  cases e with
  | returned c => exact hend.elim
  | panicked chain => exact ⟨ι', hend, ⟨hR, hs.size, hs.vars.ev hev', hs.defs.ev hev' hd⟩, hev.trans hev', hnon.trans hev hnon'⟩
  | outgrown => exact hend.elim
 | _, _, _, .cons h t, ι, a, w, hs, hev, hnon => by
  rw [wpOpsIn_cons]
  exact h.sound hs fun ι1 a1 w1 hs1 hev1 hnon1 => APanics.sound t hs1 (hev.trans hev1) (hnon.trans hev hnon1)
omit [Outer] in
theorem Run.region_pan {ro : Option Nat} {id : Nat} {ops : Array Oper} {σ σ' : St} {v : AV} (h : APanics P ops (List.range ops.size) σ v σ') : Run P ro (.region id ops false) σ (.pan v) σ' :=
 fun _ _ _ _ _ _ hs => wpIn_region (h.sound hs (Ev.refl _) (Non.refl _))
noncomputable def initVars : Nat → List AV → Trie AV
 | _, [] => .nil
 | i, a :: as => set (initVars (i + 1) as) i a
omit [Outer] in
theorem get_initVars : ∀ (as : List AV) (i k : Nat), get (initVars i as) k = if k < i then none else as[k - i]?
 | [], i, k => by simp [initVars, get_nil]
 | a :: as, i, k => by
  unfold initVars
  by_cases h : i = k
  ·subst h; rw [get_set_same]; simp
  ·rw [get_set_other _ _ _ _ h, get_initVars as (i + 1) k]
   by_cases h2 : k < i
   ·simp [h2, Nat.lt_succ_of_lt h2]
   ·have e : k - i = (k - (i + 1)) + 1 := by omega
    have h3 : ¬ k < i + 1 := by omega
    simp [h2, h3, e]
noncomputable def resA (P : Program) (σ : St) : List ResultVar → Option (List AV)
 | [] => some []
 | .tmp t :: rs => match get σ.vars t, resA P σ rs with
  | some v, some vs => some (v :: vs)
  | _, _ => none
 | .cell t ty :: rs => match (get σ.vars t).bind (loadOp P σ.H ty), resA P σ rs with
  | some v, some vs => some (v :: vs)
  | _, _ => none
def resV : List AV → AV
 | [v] => v
 | vs => .tup vs
def resOne (tmps : Array Value) : ResultVar → Sem Value
 | .tmp t => pure (tmps.getD t undef)
 | .cell x t => do loadVar t (← asAddr (tmps.getD x undef))
theorem resA_sound {σ : St} {ι : Nat → Option (Nat × Nat)} {a : Act} {w : World} (hs : SRel σ ι a w) : ∀ {rs : List ResultVar} {vs : List AV}, resA P σ rs = some vs →
  ∃ cs : List Value, (rs.mapM (resOne a.tmps)).run P w = .ok cs w ∧ VRels ⟨σ.H, ι, w⟩ vs cs
 | [], vs, h => by simp only [resA, Option.some.injEq] at h; subst h; exact ⟨[], rfl, by simp [VRels]⟩
 | .tmp t :: rs, vs, h => by
  simp only [resA] at h
  split at h
  ·rename_i v vs' h1 h2
   cases h
   obtain ⟨cs, hc, hr⟩ := resA_sound hs h2
   obtain ⟨c, hc1, hr1⟩ := hs.vars t v h1
   refine ⟨c :: cs, ?_, ⟨hr1, hr⟩⟩
   rw [List.mapM_cons, Sem.run_bind]
   have : (resOne a.tmps (.tmp t)).run P w = .ok c w := by simp [resOne, hc1]
   rw [this]
   simp only [Result.andThen_ok]
   rw [Sem.run_bind, hc]
   rfl
  ·cases h
 | .cell t ty :: rs, vs, h => by
  simp only [resA] at h
  split at h
  ·rename_i v vs' h1 h2
   cases h
   obtain ⟨cs, hc, hr⟩ := resA_sound hs h2
   obtain ⟨x, hx, hl⟩ := bind_some h1
   obtain ⟨c, hc1, hr1⟩ := hs.vars t x hx
   obtain ⟨d, hd, hrd⟩ := loadOp_sound hs.rel hl hr1
   refine ⟨d :: cs, ?_, ⟨hrd, hr⟩⟩
   rw [List.mapM_cons, Sem.run_bind]
   have hptr : ∃ ad, c = .pointer (some ad) := by
    unfold loadOp at hl
    obtain ⟨cells, hcells, _⟩ := bind_some hl
    obtain ⟨b, o, rfl, _⟩ := cellsAt_sound hs.rel hcells hr1
    exact ⟨_, rfl⟩
   obtain ⟨ad, rfl⟩ := hptr
   have : (resOne a.tmps (.cell t ty)).run P w = .ok d w := by
    unfold resOne
    rw [Sem.run_bind]
    simp only [Array.getD_eq_getD_getElem?, hc1, Option.getD_some, asAddr, Sem.run_pure, Result.andThen_ok]
    unfold Instr.loadAt at hd
    rw [Sem.run_bind] at hd
    exact hd
   rw [this]
   simp only [Result.andThen_ok]
   rw [Sem.run_bind, hc]
   rfl
  ·cases h
theorem results_run {σ : St} {ι : Nat → Option (Nat × Nat)} {a : Act} {w : World} (hs : SRel σ ι a w) {fn : Func} {vs : List AV} (h : resA P σ fn.results.toList = some vs) :
  ∃ c, (results fn a.tmps).run P w = .ok c w ∧ VRel ⟨σ.H, ι, w⟩ (resV vs) c := by
 obtain ⟨cs, hc, hr⟩ := resA_sound hs h
 have hl := hr.length
 have hm : (results fn a.tmps).run P w = .ok (if h : cs.toArray.size = 1 then cs.toArray[0] else .tuple cs.toArray) w := by
  have e0 : results fn a.tmps = (fn.results.mapM (resOne a.tmps)) >>= fun vs => pure (if h : vs.size = 1 then vs[0] else .tuple vs) := by
   unfold results
   congr 2
  rw [e0, Sem.run_bind]
  have e : (fn.results.mapM (resOne a.tmps)).run P w = .ok cs.toArray w := by
   rw [← Array.toArray_toList (xs := fn.results), List.mapM_toArray, Sem.run_map, hc]
   rfl
  rw [e]
  rfl
 refine ⟨_, hm, ?_⟩
 match vs, cs, hr, hl with
 | [], [], _, _ => simp [resV, VRel, VRels]
 | [v], [c], hr, _ => simp only [VRels] at hr; simpa [resV] using hr.1
 | v :: v' :: vs, c :: c' :: cs, hr, _ =>
  have : ¬ ((c :: c' :: cs).toArray.size = 1) := by simp
  rw [dif_neg this]
  simp only [resV, VRel]
  exact ⟨_, rfl, hr⟩
omit [Outer] in
theorem ACall.intro {f : FuncId} {fn : Func} {c : Code} {args : List AV} {H : List Blk} {e : AExit} {σ' : St} {vs : List AV} (hf : P.funcs[f]? = some fn) (hb : fn.body = some c) (hn : args.length ≤ fn.ntmps)
  (hrun : Run P none c ⟨fn.ntmps, initVars 0 args, H, []⟩ e σ') (he : e = .ret ∨ e = .normal) (hres : resA P σ' fn.results.toList = some vs) (hd : σ'.defs = []) : ACall P f args H (.ret (resV vs)) σ'.H := by
 intro O ι w cs hR hargs
 have hlen := hargs.length
 simp only [Array.length_toList] at hlen
 refine callsIn_of_wp hf hb trivial (wpIn_mono (hrun _ ι { tmps := cs ++ Array.replicate (fn.ntmps - cs.size) undef, defers := [] } w none rfl ⟨hR, ?_, ?_, trivial⟩) ?_)
 ·simp; omega
 ·intro t v hg
  rw [get_initVars] at hg
  simp only [Nat.not_lt_zero, if_false, Nat.sub_zero] at hg
  obtain ⟨d, hd1, hr⟩ := hargs.get hg
  refine ⟨d, ?_, hr⟩
  have ht : t < cs.size := by
   have := (List.getElem?_eq_some_iff.1 hd1).1
   simpa using this
  rw [Array.getElem?_append_left ht]
  simpa using hd1
 ·rintro e' a' w' ⟨ι', hx, hs, hev, hnon⟩
  obtain ⟨v, hv, hrel⟩ := results_run hs hres
  have hdef : a'.defers = [] := by
   have := hs.defs
   rw [hd] at this
   cases hda : a'.defers with
   | nil => rfl
   | cons d ds => rw [hda] at this; exact this.elim
  rcases he with rfl | rfl
  ·cases e' <;> first
    | exact ⟨hdef, v, hv, ι', hrel, hs.rel, hev, hnon⟩
    | exact hx.elim
  ·cases e' <;> first
    | exact ⟨hdef, v, hv, ι', hrel, hs.rel, hev, hnon⟩
    | exact hx.elim
omit [Outer] in
theorem ACall.intro_pan {f : FuncId} {fn : Func} {c : Code} {args : List AV} {H : List Blk} {v : AV} {σ' : St} (hf : P.funcs[f]? = some fn) (hb : fn.body = some c) (hn : args.length ≤ fn.ntmps)
  (hrun : Run P none c ⟨fn.ntmps, initVars 0 args, H, []⟩ (.pan v) σ') (hd : σ'.defs = []) : ACall P f args H (.pan v) σ'.H := by
 intro O ι w cs hR hargs
 have hlen := hargs.length
 simp only [Array.length_toList] at hlen
 refine callsIn_of_wp hf hb trivial (wpIn_mono (hrun _ ι { tmps := cs ++ Array.replicate (fn.ntmps - cs.size) undef, defers := [] } w none rfl ⟨hR, ?_, ?_, trivial⟩) ?_)
 ·simp; omega
 ·intro t v hg
  rw [get_initVars] at hg
  simp only [Nat.not_lt_zero, if_false, Nat.sub_zero] at hg
  obtain ⟨d, hd1, hr⟩ := hargs.get hg
  refine ⟨d, ?_, hr⟩
  have ht : t < cs.size := by
   have := (List.getElem?_eq_some_iff.1 hd1).1
   simpa using this
  rw [Array.getElem?_append_left ht]
  simpa using hd1
 ·rintro e' a' w' ⟨ι', hx, hs, hev, hnon⟩
  have hdef : a'.defers = [] := by
   have := hs.defs
   rw [hd] at this
   cases hda : a'.defers with
   | nil => rfl
   | cons d ds => rw [hda] at this; exact this.elim
  cases e' <;> first
   | exact ⟨hdef, ι', hx, hs.rel, hev, hnon⟩
   | exact hx.elim
end Go.Vm

namespace Go.Vm
variable {P : Program}
inductive OKind where
 | plain | lay | eff | store
 deriving DecidableEq
def okind (o : Oper) : OKind :=
 match o.op with
 | .store .. | .mapUpdate .. | .insert .. | .next .. => .store
 | .range .. => .eff
 | .alloc _ | .makeMap _ none => .lay
 | .box .. | .makeMap .. | .makeSlice .. => .eff
 | .call { callee := .builtin .len, .. } | .call { callee := .builtin .max, .. } | .call { callee := .builtin .min, .. } => .plain
 | .call _ => .eff
 | _ => .plain
def Blk.loose : Blk → Bool
 | .row _ => true
 | _ => false
theorem Blk.loose_of {B : Blk} (h : B.isRow = false) : B.loose = false := by cases B <;> first | rfl | cases h
def HLe (H H' : List Blk) : Prop := ∀ (id : Nat) (B : Blk), H[id]? = some B → B.loose = false → H'[id]? = some B
theorem HLe.refl (H : List Blk) : HLe H H := fun _ _ h _ => h
theorem HLe.trans {H H' H'' : List Blk} (h : HLe H H') (h' : HLe H' H'') : HLe H H'' := fun id B hb hr => h' id B (h id B hb hr) hr
theorem HLe.keepsD {H H' : List Blk} (h : HLe H H') : keepsD H H' := fun id hb => h id _ hb rfl
theorem HLe.append (H H2 : List Blk) : HLe H (H ++ H2) := fun id B h _ => by
 rw [List.getElem?_append_left (List.getElem?_eq_some_iff.1 h).1]; exact h
theorem cellsAt_le {H H' : List Blk} (hle : HLe H H') {x : AV} {cells : List AV} (h : cellsAt H x = some cells) : cellsAt H' x = some cells := by
 unfold cellsAt at h ⊢
 cases x with
 | ptr id off =>
  simp only at h ⊢
  cases hB : H[id]? with
  | none => simp [hB] at h
  | some B =>
   cases B with
   | box c t => rw [hle id _ hB rfl]; rw [hB] at h; exact h
   | _ => simp [hB] at h
 | eptr c => exact h
 | mptr id gen off =>
  simp only at h ⊢
  cases hB : H[id]? with
  | none => simp [hB] at h
  | some B =>
   cases B with
   | mrow g c => rw [hle id _ hB rfl]; rw [hB] at h; exact h
   | _ => simp [hB] at h
 | _ => cases h
theorem loadOp_le {H H' : List Blk} (hle : HLe H H') {t : TypeId} {x v : AV} (h : loadOp P H t x = some v) : loadOp P H' t x = some v := by
 unfold loadOp at h ⊢
 obtain ⟨c, hc, hl⟩ := bind_some h
 rw [cellsAt_le hle hc]
 exact hl
theorem lenA_le {H H' : List Blk} (hle : HLe H H') {t : TypeId} {x : AV} {n : Nat} (h : lenA P H t x = some n) : lenA P H' t x = some n := by
 have same : (∀ id, x ≠ .mp id) → lenA P H' t x = lenA P H t x := by
  intro hx
  unfold lenA
  cases hu : P.underlying t with
  | none => rfl
  | some d => cases d <;> first | rfl | (cases x <;> first | rfl | (rename_i u; cases u <;> rfl) | exact absurd rfl (hx _))
 cases x with
 | mp id =>
  unfold lenA at h ⊢
  cases hu : P.underlying t with
  | none => rw [hu] at h; cases h
  | some d =>
   rw [hu] at h
   cases d with
   | map k e =>
    simp only at h ⊢
    cases hB : H[id]? with
    | none => simp [hB] at h
    | some B =>
     cases B with
     | map sh es => rw [hle id _ hB rfl]; rw [hB] at h; exact h
     | _ => simp [hB] at h
   | array k e => exact h
   | _ => cases h
 | _ => rw [same fun id => by simp]; exact h
theorem lookupOp_le {H H' : List Blk} (hle : HLe H H') {t : TypeId} {x k v : AV} {ok : Bool} (h : lookupOp P H t x k ok = some v) : lookupOp P H' t x k ok = some v := by
 unfold lookupOp at h ⊢
 cases h1 : tmap P t with
 | none => rw [h1] at h; cases h
 | some p =>
 obtain ⟨sh, kt, e⟩ := p
 rw [h1] at h
 cases x <;> try (cases h; done)
 rename_i id
 cases h2 : conc k with
 | none => rw [h2] at h; cases h
 | some u =>
 rw [h2] at h
 simp only at h ⊢
 cases hB : H[id]? with
 | none => rw [hB] at h; cases h
 | some B =>
 cases B with
 | map sh' es => rw [hle id _ hB rfl]; rw [hB] at h; exact h
 | _ => rw [hB] at h; cases h
theorem srcCells_le {H H' : List Blk} (hle : HLe H H') {size : Nat} {x : AV} {p : Nat × List AV} (h : srcCells H size x = some p) : srcCells H' size x = some p := by
 unfold srcCells at h ⊢
 cases x with
 | hsl id off len cap =>
  simp only at h ⊢
  cases hB : H[id]? with
  | none => simp [hB] at h
  | some B =>
   cases B with
   | box c t => rw [hle id _ hB rfl]; rw [hB] at h; exact h
   | _ => simp [hB] at h
 | msl id gen len sz =>
  simp only at h ⊢
  cases hB : H[id]? with
  | none => simp [hB] at h
  | some B =>
   cases B with
   | mrow g c => rw [hle id _ hB rfl]; rw [hB] at h; exact h
   | _ => simp [hB] at h
 | lit v =>
  rw [← h]
  cases v with
  | slice a l c => cases a <;> cases l <;> rfl
  | _ => rfl
 | _ => exact h
theorem convB_le {H H' : List Blk} (hle : HLe H H') {src dst : TypeId} {x v : AV} (h : convB P H src dst x = some v) : convB P H' src dst x = some v := by
 unfold convB at h ⊢
 split at h
 ·rename_i d k hs hd
  have : convA P H' src dst x = convA P H src dst x := by
   unfold convA; rw [hd]; cases x with
   | lit u => cases u <;> rfl
   | _ => rfl
  rw [this]; exact h
 ·rename_i d hs hd
  unfold bytesA at h ⊢
  split at h
  case h_2 => cases h
  rename_i e hs'
  split at h
  case h_2 => cases h
  rename_i he
  split at h
  case isFalse => cases h
  rename_i hla
  split at h
  case h_2 => cases h
  rename_i n cells hc
  rw [srcCells_le hle hc]
  simp [hla, h]
 ·cases h
theorem plain_le {m : Bool} {H H' : List Blk} (hle : HLe H H') {ρ : Operand → Option AV} {o : Oper} (hk : okind o = .plain) {v : AV} {H1 : List Blk}
  (h : aop P m H ρ o = some (.val v H1)) : H1 = H ∧ aop P m H' ρ o = some (.val v H') := by
 obtain ⟨dst, op, type, pos, after, guard⟩ := o
 have tr : ∀ {α : Type} {x : Option α} {f : α → AV}, (x.map fun a => AR.val (f a) H) = some (.val v H1) → H1 = H ∧ (x.map fun a => AR.val (f a) H') = some (.val v H') := by
  intro α x f hx
  obtain ⟨a, ha, hx⟩ := map_some hx
  cases hx
  exact ⟨rfl, by rw [ha]; rfl⟩
 cases op with
 | alloc t => simp [okind] at hk
 | store => simp [okind] at hk
 | mapUpdate => simp [okind] at hk
 | insert => simp [okind] at hk
 | next => simp [okind] at hk
 | range => simp [okind] at hk
 | box => simp [okind] at hk
 | makeSlice => simp [okind] at hk
 | makeMap t r => cases r <;> simp [okind] at hk
 | load t x =>
  simp only [aop] at h ⊢
  obtain ⟨a, ha, h⟩ := bind_some h
  obtain ⟨u, hu, h⟩ := map_some h
  cases h
  rw [ha]
  exact ⟨rfl, by simp [loadOp_le hle hu]⟩
 | lookup t x k ok =>
  simp only [aop] at h ⊢
  split at h
  ·rename_i a b ha hb
   obtain ⟨u, hu, h⟩ := map_some h
   cases h
   exact ⟨rfl, by simp [lookupOp_le hle hu]⟩
  ·cases h
 | convert src dst x =>
  simp only [aop] at h ⊢
  obtain ⟨a, ha, h⟩ := bind_some h
  obtain ⟨u, hu, h⟩ := map_some h
  cases h
  refine ⟨rfl, ?_⟩
  simp [ha, convB_le hle hu]
 | call c =>
  obtain ⟨callee, cargs, argTypes⟩ := c
  cases callee with
  | value f => simp [okind] at hk
  | invoke r m => simp [okind] at hk
  | builtin b =>
   cases b <;> simp only [okind, reduceCtorEq] at hk
   all_goals
    simp only [aop] at h ⊢
    cases hargs : aevs ρ cargs.toList with
    | none => simp [hargs] at h
    | some args =>
     simp only [hargs] at h ⊢
     split at h
     all_goals first
      | (cases h; done)
      | (cases h; exact ⟨rfl, rfl⟩)
      | (obtain ⟨n, hn, h⟩ := map_some h; cases h; exact ⟨rfl, by simp [lenA_le hle hn]⟩)
 | pick c a b =>
  simp only [aop] at h ⊢
  split at h
  ·rename_i t ht
   first
    | exact tr (f := id) h
    | (rw [ht]; exact tr (f := id) h)
  ·cases h
 | build t parts =>
  simp only [aop] at h ⊢
  obtain ⟨a, ha, h⟩ := bind_some h
  rw [ha]; exact tr (f := id) h
 | buildSlice t n parts =>
  simp only [aop] at h ⊢
  obtain ⟨a, ha, h⟩ := bind_some h
  rw [ha]; exact tr (f := id) h
 | move x => exact tr (f := id) h
 | assign x => exact tr (f := id) h
 | binOp op t x y yt =>
  simp only [aop] at h ⊢
  split at h
  ·rename_i a b ha hb; exact tr (f := id) h
  ·cases h
 | unOp op t x =>
  simp only [aop] at h ⊢
  obtain ⟨a, ha, h⟩ := bind_some h
  rw [ha]; exact tr (f := id) h
 | makeInterface t x =>
  simp only [aop] at h ⊢
  split at h
  ·cases h
  ·cases h
  ·exact tr (f := fun v => .iface t v) h
 | makeFunc f a b =>
  simp only [aop] at h ⊢
  split at h
  ·cases h; exact ⟨rfl, rfl⟩
  ·cases h
 | slice t x lo hi mx =>
  simp only [aop] at h ⊢
  split at h
  ·split at h
   ·rename_i hg; rw [if_pos hg]; exact tr (f := id) h
   ·cases h
  ·cases h
 | nilCheck x =>
  simp only [aop] at h ⊢
  obtain ⟨a, ha, h⟩ := bind_some h
  rw [ha]; exact tr (f := id) h
 | typeAssert x xT a ok =>
  cases ok with
  | false => simp [aop] at h
  | true =>
   simp only [aop] at h ⊢
   obtain ⟨a, ha, h⟩ := bind_some h
   rw [ha]; exact tr (f := id) h
 | fieldAddr t x i =>
  simp only [aop] at h ⊢
  obtain ⟨a, ha, h⟩ := bind_some h
  rw [ha]; exact tr (f := id) h
 | field t x i =>
  simp only [aop] at h ⊢
  obtain ⟨a, ha, h⟩ := bind_some h
  rw [ha]; exact tr (f := id) h
 | indexAddr t x i =>
  simp only [aop] at h ⊢
  split at h
  ·exact tr (f := id) h
  ·cases h
 | index t x i =>
  simp only [aop] at h ⊢
  split at h
  ·exact tr (f := id) h
  ·cases h
 | extract t i =>
  simp only [aop] at h ⊢
  split at h
  ·exact tr (f := id) h
  ·cases h
 | panic x =>
  simp only [aop] at h
  split at h <;> cases h
 | _ => simp [aop] at h
theorem aevs_congr {ρ ρ' : Operand → Option AV} : ∀ {xs : List Operand}, (∀ x ∈ xs, ρ x = ρ' x) → aevs ρ xs = aevs ρ' xs
 | [], _ => rfl
 | x :: xs, h => by simp only [aevs]; rw [h x (by simp), aevs_congr fun y hy => h y (by simp [hy])]
theorem apairs_congr {ρ ρ' : Operand → Option AV} : ∀ {xs : List (Nat × Operand)}, (∀ p ∈ xs, ρ p.2 = ρ' p.2) → apairs ρ xs = apairs ρ' xs
 | [], _ => rfl
 | (i, x) :: xs, h => by simp only [apairs]; rw [h (i, x) (by simp), apairs_congr fun y hy => h y (by simp [hy])]
theorem aop_congr {m : Bool} {H : List Blk} {ρ ρ' : Operand → Option AV} {o : Oper} (h : ∀ x ∈ o.op.operands, ρ x = ρ' x) : aop P m H ρ o = aop P m H ρ' o := by
 obtain ⟨dst, op, type, pos, after, guard⟩ := o
 cases op <;> simp only [Op.operands] at h <;> simp only [aop]
 case move x => rw [h x (by simp)]
 case assign x => rw [h x (by simp)]
 case pick c a b => rw [h c (by simp), h a (by simp), h b (by simp)]
 case box t x => rw [h x (by simp)]
 case build t ps => rw [apairs_congr fun p hp => h p.2 (by simpa using ⟨p.1, by simpa using hp⟩)]
 case buildSlice t n ps => rw [apairs_congr fun p hp => h p.2 (by simpa using ⟨p.1, by simpa using hp⟩)]
 case load t x => rw [h x (by simp)]
 case store t a v => rw [h a (by simp), h v (by simp)]
 case binOp op t x y yt => rw [h x (by simp), h y (by simp)]
 case unOp op t x => rw [h x (by simp)]
 case convert a b x => rw [h x (by simp)]
 case makeInterface t x => rw [h x (by simp)]
 case makeFunc f a b => rw [aevs_congr fun x hx => h x (by simp; exact .inl (by simpa using hx)), aevs_congr fun x hx => h x (by simp; exact .inr (by simpa using hx))]
 case makeMap t r => cases r <;> rfl
 case makeSlice t l c => rw [h l (by simp), h c (by simp)]
 case range t x => rw [h x (by simp)]
 case nilCheck x => rw [h x (by simp)]
 case typeAssert x xT a ok => cases ok <;> simp only [h x (by simp)]
 case next x s => cases s <;> simp only [h x (by simp)]
 case slice t x lo hi mx =>
  rw [h x (by simp)]
  have e : ∀ y : Option Operand, (∀ z, y = some z → ρ z = ρ' z) → y.bind ρ = y.bind ρ' := by
   intro y hy; cases y with
   | none => rfl
   | some z => simpa using hy z rfl
  rw [e lo fun z hz => h z (by simp [hz]), e hi fun z hz => h z (by simp [hz]), e mx fun z hz => h z (by simp [hz])]
 case fieldAddr t x i => rw [h x (by simp)]
 case field t x i => rw [h x (by simp)]
 case indexAddr t x i => rw [h x (by simp), h i (by simp)]
 case index t x i => rw [h x (by simp), h i (by simp)]
 case lookup t x k ok => rw [h x (by simp), h k (by simp)]
 case mapUpdate t m k x => rw [h m (by simp), h k (by simp), h x (by simp)]
 case insert t m k x => rw [h m (by simp), h k (by simp), h x (by simp)]
 case extract t i => rw [h t (by simp)]
 case panic x => rw [h x (by simp)]
 case call c =>
  obtain ⟨callee, cargs, argTypes⟩ := c
  have ha : aevs ρ cargs.toList = aevs ρ' cargs.toList := aevs_congr fun x hx => h x (by simp [Call.operands]; exact .inr (by simpa using hx))
  rw [ha]
  cases callee with
  | value f => dsimp only; rw [h f (by simp [Call.operands])]
  | invoke r m => dsimp only; rw [h r (by simp [Call.operands])]
  | builtin b => cases b <;> rfl
structure St.Eqv (σ τ : St) : Prop where
 n : σ.n = τ.n
 H : σ.H = τ.H
 defs : σ.defs = τ.defs
 vars : ∀ k, get σ.vars k = get τ.vars k
theorem St.Eqv.refl (σ : St) : σ.Eqv σ := ⟨rfl, rfl, rfl, fun _ => rfl⟩
theorem St.Eqv.symm {σ τ : St} (h : σ.Eqv τ) : τ.Eqv σ := ⟨h.n.symm, h.H.symm, h.defs.symm, fun k => (h.vars k).symm⟩
theorem St.Eqv.trans {σ τ υ : St} (h : σ.Eqv τ) (h' : τ.Eqv υ) : σ.Eqv υ := ⟨h.n.trans h'.n, h.H.trans h'.H, h.defs.trans h'.defs, fun k => (h.vars k).trans (h'.vars k)⟩
theorem St.Eqv.eval {σ τ : St} (h : σ.Eqv τ) : σ.eval = τ.eval := by
 funext x
 cases x <;> first | rfl | exact h.vars _
theorem SRel.eqv [Outer] {σ τ : St} (h : σ.Eqv τ) {ι : Nat → Option (Nat × Nat)} {a : Act} {w : World} (x : SRel σ ι a w) : SRel τ ι a w := by
 have hH := h.H
 refine ⟨by rw [← hH]; exact x.rel, x.size.trans h.n, fun t v hg => ?_, by rw [← hH, ← h.defs]; exact x.defs⟩
 rw [← hH]
 exact x.vars t v ((h.vars t).trans hg)
theorem wantedA_eqv {ops : Array Oper} {v1 v2 : Trie AV} (h : ∀ k, get v1 k = get v2 k) (o : Oper) : wantedA ops v1 o = wantedA ops v2 o := by
 unfold wantedA
 cases o.guard with
 | none => rfl
 | some p =>
  obtain ⟨j, want⟩ := p
  simp only
  cases (ops[j]?).bind (·.dst) with
  | none => rfl
  | some t => simp only [h t]
theorem putA_eqv {σ τ : St} (h : σ.Eqv τ) {dst : Option Tmp} {v : AV} {H' : List Blk} {σ1 : St} (hp : putA σ dst v H' = some σ1) : ∃ τ1, putA τ dst v H' = some τ1 ∧ σ1.Eqv τ1 := by
 unfold putA at hp ⊢
 cases dst with
 | none => cases hp; exact ⟨_, rfl, ⟨h.n, rfl, h.defs, h.vars⟩⟩
 | some d =>
  simp only at hp ⊢
  split at hp
  ·rename_i hd
   cases hp
   rw [if_pos (by rw [← h.n]; exact hd)]
   refine ⟨_, rfl, ⟨h.n, rfl, h.defs, fun k => ?_⟩⟩
   simp only
   by_cases hk : d = k
   ·subst hk; rw [get_set_same, get_set_same]
   ·rw [get_set_other _ _ _ _ hk, get_set_other _ _ _ _ hk]; exact h.vars k
  ·cases hp
def Does (P : Program) (r : AR) (H : List Blk) (v : AV) (H' : List Blk) : Prop :=
 r = .val v H' ∨ (∃ f args, r = .call f args ∧ callable P f = true ∧ ACall P f args H (.ret v) H') ∨ ∃ id args, r = .round id args ∧ ARound P id args H (.ret v) H'
def layB (P : Program) (o : Oper) : Option Blk :=
 match o.op with
 | .alloc t => (tz P t).map fun z => .box (z.cells.toList.map .lit) t
 | .makeMap t none => (tmap P t).map fun p => .map p.1 []
 | _ => none
def layV (o : Oper) (id : Nat) : AV :=
 match o.op with
 | .makeMap .. => .mp id
 | _ => .ptr id 0
def light (o : Oper) : Bool := okind o == .plain || okind o == .lay
def Good (Hs : List (List Blk)) (H : List Blk) : Prop := ∃ H0 ∈ Hs, HLe H0 H
inductive Res (P : Program) (ops : Array Oper) (al : Nat → Option Nat) (Hs : List (List Blk)) (i : Nat) (o : Oper) (σ : St) : AV → List Blk → Prop
  | plain {m : Bool} {v : AV} (hk : okind o = .plain) (hw : wantedA ops σ.vars o = some true) (ha : aop P m σ.H σ.eval o = some (.val v σ.H)) (h0 : ∀ H ∈ Hs, aop P m H σ.eval o = some (.val v H)) :
      Res P ops al Hs i o σ v σ.H
  | lay {B : Blk} {id : Nat} (hk : okind o = .lay) (hw : wantedA ops σ.vars o = some true) (hB : layB P o = some B) (hal : al i = some id) : Res P ops al Hs i o σ (layV o id) σ.H
  | skip (hw : wantedA ops σ.vars o = some false) : Res P ops al Hs i o σ (.lit undef) σ.H
  | eff {m : Bool} {r : AR} {v : AV} {H' : List Blk} (hk : okind o = .eff) (hw : wantedA ops σ.vars o = some true) (ha : aop P m σ.H σ.eval o = some r) (hr : Does P r σ.H v H') (hle : HLe σ.H H') :
      Res P ops al Hs i o σ v H'
  | store {m : Bool} {v : AV} {H' : List Blk} (hk : okind o = .store) (hw : wantedA ops σ.vars o = some true) (ha : aop P m σ.H σ.eval o = some (.val v H')) (hmem : Good Hs H') (hd : keepsD σ.H H') :
      Res P ops al Hs i o σ v H'
theorem looks_eval {ops : Array Oper} {o : Oper} {σ τ : St} (h : ∀ d, d ∈ o.looksAt ops → get σ.vars d = get τ.vars d) : (∀ x ∈ o.op.operands, σ.eval x = τ.eval x) ∧ wantedA ops σ.vars o = wantedA ops τ.vars o := by
 constructor
 ·intro x hx
  cases x with
  | tmp t => exact h t (List.mem_append_left _ (List.mem_filterMap.2 ⟨.tmp t, by simpa using hx, rfl⟩))
  | _ => rfl
 ·unfold wantedA
  cases hg : o.guard with
  | none => rfl
  | some p =>
   obtain ⟨j, want⟩ := p
   simp only
   cases hd : (ops[j]?).bind (·.dst) with
   | none => rfl
   | some t =>
    simp only
    rw [h t]
    unfold Oper.looksAt
    rw [hg]
    simp [hd]
theorem Res.other {ops : Array Oper} {al : Nat → Option Nat} {Hs : List (List Blk)} {i : Nat} {o : Oper} {σ τ : St} {v : AV} {H' : List Blk} (h : Res P ops al Hs i o σ v H') (hk : light o = true)
  (hl : ∀ d, d ∈ o.looksAt ops → get σ.vars d = get τ.vars d) (hle : Good Hs τ.H) : H' = σ.H ∧ Res P ops al Hs i o τ v τ.H := by
 obtain ⟨he, hw⟩ := looks_eval hl
 unfold light at hk
 cases h with
 | plain hk' hw' ha h0 =>
  obtain ⟨H0, hH0, hle⟩ := hle
  have h0' : ∀ H ∈ Hs, aop P _ H τ.eval o = some (.val v H) := fun H hH => by rw [← aop_congr he]; exact h0 H hH
  exact ⟨rfl, .plain hk' (hw ▸ hw') (plain_le hle hk' (h0' H0 hH0)).2 h0'⟩
 | lay hk' hw' hB hal => exact ⟨rfl, .lay hk' (hw ▸ hw') hB hal⟩
 | skip hw' => exact ⟨rfl, .skip (hw ▸ hw')⟩
 | eff hk' => rw [hk'] at hk; simp at hk
 | store hk' => rw [hk'] at hk; simp at hk
theorem Res.same {ops : Array Oper} {al : Nat → Option Nat} {Hs : List (List Blk)} {i : Nat} {o : Oper} {σ τ : St} {v : AV} {H' : List Blk} (h : Res P ops al Hs i o σ v H')
  (hl : ∀ d, d ∈ o.looksAt ops → get σ.vars d = get τ.vars d) (hH : σ.H = τ.H) : Res P ops al Hs i o τ v H' := by
 obtain ⟨he, hw⟩ := looks_eval hl
 cases h with
 | plain hk' hw' ha h0 =>
  rw [aop_congr he] at ha
  rw [hH] at ha ⊢
  exact .plain hk' (hw ▸ hw') ha fun H hm => by rw [← aop_congr he]; exact h0 H hm
 | lay hk' hw' hB hal => rw [hH]; exact .lay hk' (hw ▸ hw') hB hal
 | skip hw' => rw [hH]; exact .skip (hw ▸ hw')
 | eff hk' hw' ha hr hle =>
  rw [aop_congr he, hH] at ha
  rw [hH] at hr hle
  exact .eff hk' (hw ▸ hw') ha hr hle
 | store hk' hw' ha hmem hd =>
  rw [aop_congr he, hH] at ha
  rw [hH] at hd
  exact .store hk' (hw ▸ hw') ha hmem hd
theorem Res.good {ops : Array Oper} {al : Nat → Option Nat} {Hs : List (List Blk)} {i : Nat} {o : Oper} {σ : St} {v : AV} {H' : List Blk} (h : Res P ops al Hs i o σ v H') (hg : Good Hs σ.H) : Good Hs H' := by
 cases h with
 | eff _ _ _ _ hle => obtain ⟨H0, h1, h2⟩ := hg; exact ⟨H0, h1, h2.trans hle⟩
 | store _ _ _ hmem => exact hmem
 | _ => exact hg
def DStep (P : Program) (ops : Array Oper) (al : Nat → Option Nat) (Hs : List (List Blk)) (i : Nat) (σ σ1 : St) : Prop :=
 ∃ o v H', ops[i]? = some o ∧ Res P ops al Hs i o σ v H' ∧ putA σ o.dst v H' = some σ1
inductive DPath (P : Program) (ops : Array Oper) (al : Nat → Option Nat) (mask : Nat) : List (List Blk) → List Nat → St → St → Prop
  | nil {Hs : List (List Blk)} {σ : St} : DPath P ops al mask Hs [] σ σ
  | cons {Hs : List (List Blk)} {i : Nat} {l : List Nat} {σ σ1 σ2 : St} (hm : mask.testBit i = false) (h : DStep P ops al Hs i σ σ1) (t : DPath P ops al mask Hs l σ1 σ2) : DPath P ops al mask Hs (i :: l) σ σ2
  | barrier {Hs Hs' : List (List Blk)} {i : Nat} {l : List Nat} {σ σ1 σ2 : St} (hm : mask.testBit i = true) (h : AStep P ops i σ σ1) (hf : ∀ j ∈ l, ∀ id, al j = some id → σ1.H[id]? = σ.H[id]?)
      (hg : Good Hs' σ1.H) (t : DPath P ops al mask Hs' l σ1 σ2) : DPath P ops al mask Hs (i :: l) σ σ2
theorem putA_H {σ σ1 : St} {dst : Option Tmp} {v : AV} {H' : List Blk} (hp : putA σ dst v H' = some σ1) : σ1.H = H' ∧ σ1.n = σ.n ∧ σ1.defs = σ.defs ∧
  ∀ k, (∀ d, dst = some d → d ≠ k) → get σ1.vars k = get σ.vars k := by
 unfold putA at hp
 cases dst with
 | none => cases hp; exact ⟨rfl, rfl, rfl, fun _ _ => rfl⟩
 | some d =>
  simp only at hp
  split at hp
  ·cases hp
   exact ⟨rfl, rfl, rfl, fun k hk => get_set_other _ _ _ _ (hk d rfl)⟩
  ·cases hp
def comm (ops : Array Oper) (x y : Oper) : Bool :=
 x.apart ops y && ((light x || light y) && (!(okind x == .lay && okind y == .store) && !(okind x == .store && okind y == .lay)))
theorem putA_n {σ τ : St} (hn : σ.n = τ.n) {dst : Option Tmp} {v v' : AV} {H H' : List Blk} {σ1 : St} (hp : putA σ dst v H = some σ1) : ∃ τ1, putA τ dst v' H' = some τ1 := by
 unfold putA at hp ⊢
 cases dst with
 | none => exact ⟨_, rfl⟩
 | some d =>
  simp only at hp ⊢
  split at hp
  ·rename_i hd; rw [if_pos (by rw [← hn]; exact hd)]; exact ⟨_, rfl⟩
  ·cases hp
theorem putA_get {σ σ1 : St} {d : Nat} {v : AV} {H' : List Blk} (hp : putA σ (some d) v H' = some σ1) : get σ1.vars d = some v := by
 unfold putA at hp
 simp only at hp
 split at hp
 ·cases hp; exact get_set_same _ _ _
 ·cases hp
theorem swap_steps {ops : Array Oper} {al : Nat → Option Nat} {Hs : List (List Blk)} {p i : Nat} {σ σ1 σ2 : St} {op oi : Oper} (hop : ops[p]? = some op) (hoi : ops[i]? = some oi) (hc : comm ops op oi = true)
  (h1 : DStep P ops al Hs p σ σ1) (h2 : DStep P ops al Hs i σ1 σ2) (hle : Good Hs σ.H) :
  ∃ τ τ2, DStep P ops al Hs i σ τ ∧ DStep P ops al Hs p τ τ2 ∧ σ2.Eqv τ2 := by
 unfold comm at hc
 rw [Bool.and_eq_true, Bool.and_eq_true, Bool.or_eq_true] at hc
 obtain ⟨hap, hne, _⟩ := hc
 obtain ⟨a1, a2, a3⟩ := Oper.apart_spec hap
 obtain ⟨o1, vp, Hp, e1, r1, p1⟩ := h1
 rw [hop] at e1; cases e1
 obtain ⟨o2, vi, Hi, e2, r2, p2⟩ := h2
 rw [hoi] at e2; cases e2
 obtain ⟨hH1, hn1, hd1, hg1⟩ := putA_H p1
 obtain ⟨hH2, hn2, hd2, hg2⟩ := putA_H p2
 -- what i looks at is the same before p
 have look_i : ∀ d, d ∈ oi.looksAt ops → get σ1.vars d = get σ.vars d := fun d hd => hg1 d fun d' hd' e => a1 d' hd' (e ▸ hd)
 -- i at σ
 have hri : ∃ Hi', Res P ops al Hs i oi σ vi Hi' ∧ (light oi = true → Hi' = σ.H ∧ Hi = σ1.H) ∧ (¬ light oi = true → Hi' = Hi ∧ Hp = σ.H) := by
  by_cases hk : light oi = true
  ·obtain ⟨e, r⟩ := r2.other hk look_i hle
   exact ⟨σ.H, r, fun _ => ⟨rfl, e⟩, fun h => absurd hk h⟩
  ·have hkp : light op = true := hne.resolve_right hk
   have hHp : Hp = σ.H := (r1.other hkp (fun _ _ => rfl) hle).1
   have := r2.same look_i (hH1.trans hHp)
   exact ⟨Hi, this, fun h => absurd h hk, fun _ => ⟨rfl, hHp⟩⟩
 obtain ⟨Hi', ri, hplain, heff⟩ := hri
 have hgi : Good Hs Hi' := ri.good hle
 obtain ⟨τ, pτ⟩ := putA_n (v' := vi) (H' := Hi') hn1 p2
 obtain ⟨hHτ, hnτ, hdτ, hgτ⟩ := putA_H pτ
 have look_p : ∀ d, d ∈ op.looksAt ops → get σ.vars d = get τ.vars d := fun d hd => (hgτ d fun d' hd' e => a3 d' hd' (e ▸ hd)).symm
 have hrp : ∃ Hp', Res P ops al Hs p op τ vp Hp' ∧ Hp' = Hi := by
  by_cases hk : light op = true
  ·obtain ⟨e, r⟩ := r1.other hk look_p (by rw [hHτ]; exact hgi)
   refine ⟨τ.H, r, ?_⟩
   rw [hHτ]
   by_cases hki : light oi = true
   ·obtain ⟨g1, g2⟩ := hplain hki
    rw [g1, g2, hH1, e]
   ·exact (heff hki).1
  ·have hki : light oi = true := hne.resolve_left hk
   obtain ⟨g1, g2⟩ := hplain hki
   exact ⟨Hp, r1.same look_p (by rw [hHτ, g1]), by rw [g2, hH1]⟩
 obtain ⟨Hp', rp, hHp'⟩ := hrp
 obtain ⟨τ2, pτ2⟩ := putA_n (v' := vp) (H' := Hp') hnτ.symm p1
 obtain ⟨hHτ2, hnτ2, hdτ2, hgτ2⟩ := putA_H pτ2
 refine ⟨τ, τ2, ⟨oi, vi, Hi', hoi, ri, pτ⟩, ⟨op, vp, Hp', hop, rp, pτ2⟩, ⟨?_, ?_, ?_, fun k => ?_⟩⟩
 ·rw [hn2, hn1, hnτ2, hnτ]
 ·rw [hH2, hHτ2, hHp']
 ·rw [hd2, hd1, hdτ2, hdτ]
 ·by_cases hk1 : op.dst = some k
  ·have hk2 : ∀ d, oi.dst = some d → d ≠ k := fun d hd e => a2 k hk1 (e ▸ hd)
   rw [hg2 k hk2]
   rw [hk1] at p1 pτ2
   rw [putA_get p1, putA_get pτ2]
  ·have hk1' : ∀ d, op.dst = some d → d ≠ k := fun d hd e => hk1 (e ▸ hd)
   rw [hgτ2 k hk1']
   by_cases hk2 : oi.dst = some k
   ·rw [hk2] at p2 pτ
    rw [putA_get p2, putA_get pτ]
   ·have hk2' : ∀ d, oi.dst = some d → d ≠ k := fun d hd e => hk2 (e ▸ hd)
    rw [hg2 k hk2', hg1 k hk1', hgτ k hk2']
theorem DStep.eqv {ops : Array Oper} {al : Nat → Option Nat} {Hs : List (List Blk)} {i : Nat} {σ σ1 τ : St} (h : DStep P ops al Hs i σ σ1) (he : σ.Eqv τ) : ∃ τ1, DStep P ops al Hs i τ τ1 ∧ σ1.Eqv τ1 := by
 obtain ⟨o, v, H', ho, hr, hp⟩ := h
 obtain ⟨τ1, hp1, he1⟩ := putA_eqv he hp
 exact ⟨τ1, ⟨o, v, H', ho, hr.same (fun d _ => he.vars d) he.H, hp1⟩, he1⟩
theorem AStep.eqv {ops : Array Oper} {i : Nat} {σ σ1 τ : St} (h : AStep P ops i σ σ1) (he : σ.Eqv τ) : ∃ τ1, AStep P ops i τ τ1 ∧ σ1.Eqv τ1 := by
 have hH := he.H
 cases h with
 | val ho hw ha hd hp =>
  obtain ⟨τ1, hp1, he1⟩ := putA_eqv he hp
  exact ⟨τ1, .val ho (by rw [← wantedA_eqv he.vars]; exact hw) (by rw [← he.eval, ← hH]; exact ha) (by rw [← hH]; exact hd) hp1, he1⟩
 | skip ho hw hp =>
  rw [hH] at hp
  obtain ⟨τ1, hp1, he1⟩ := putA_eqv he hp
  exact ⟨τ1, .skip ho (by rw [← wantedA_eqv he.vars]; exact hw) hp1, he1⟩
 | call ho hw ha hcal hc hd hp =>
  obtain ⟨τ1, hp1, he1⟩ := putA_eqv he hp
  exact ⟨τ1, .call ho (by rw [← wantedA_eqv he.vars]; exact hw) (by rw [← he.eval, ← hH]; exact ha) hcal (by rw [← hH]; exact hc) (by rw [← hH]; exact hd) hp1, he1⟩
 | round ho hw ha hc hd hp =>
  obtain ⟨τ1, hp1, he1⟩ := putA_eqv he hp
  exact ⟨τ1, .round ho (by rw [← wantedA_eqv he.vars]; exact hw) (by rw [← he.eval, ← hH]; exact ha) (by rw [← hH]; exact hc) (by rw [← hH]; exact hd) hp1, he1⟩
theorem DPath.eqv {ops : Array Oper} {al : Nat → Option Nat} {mask : Nat} : ∀ {Hs : List (List Blk)} {l : List Nat} {σ σ2 τ : St}, DPath P ops al mask Hs l σ σ2 → σ.Eqv τ → ∃ τ2, DPath P ops al mask Hs l τ τ2 ∧ σ2.Eqv τ2
 | _, _, _, _, τ, .nil, he => ⟨τ, .nil, he⟩
 | _, _, _, _, _, .cons hm h t, he => by
  obtain ⟨τ1, h1, he1⟩ := h.eqv he
  obtain ⟨τ2, t2, he2⟩ := DPath.eqv t he1
  exact ⟨τ2, .cons hm h1 t2, he2⟩
 | _, _, _, _, _, .barrier hm h hf hg t, he => by
  obtain ⟨τ1, h1, he1⟩ := h.eqv he
  obtain ⟨τ2, t2, he2⟩ := DPath.eqv t he1
  exact ⟨τ2, .barrier hm h1 (by rw [← he.H, ← he1.H]; exact hf) (by rw [← he1.H]; exact hg) t2, he2⟩
theorem DPath.first {mask : Nat} {ops : Array Oper} {al : Nat → Option Nat} {Hs : List (List Blk)} {i : Nat} {oi : Oper} {post : List Nat} (hoi : ops[i]? = some oi) (hmi : mask.testBit i = false) : ∀ {pre : List Nat} {σ σ' : St},
  DPath P ops al mask Hs (pre ++ i :: post) σ σ' → (∀ p ∈ pre, mask.testBit p = false ∧ ∃ op, ops[p]? = some op ∧ comm ops op oi = true) → Good Hs σ.H →
  ∃ τ σ'', DStep P ops al Hs i σ τ ∧ DPath P ops al mask Hs (pre ++ post) τ σ'' ∧ σ'.Eqv σ''
 | [], σ, σ', h, _, _ => by
  cases h with
  | cons hm h t => exact ⟨_, σ', h, t, St.Eqv.refl _⟩
  | barrier hm => rw [hmi] at hm; cases hm
 | p :: pre, σ, σ', h, hc, hle => by
  obtain ⟨hmp, op, hop, hcomm⟩ := hc p (by simp)
  rw [List.cons_append] at h
  cases h with
  | barrier hm => rw [hmp] at hm; cases hm
  | cons hm h t =>
   rename_i σ1
   have hle1 : Good Hs σ1.H := by
    obtain ⟨o, v, H', _, hr, hp⟩ := h
    rw [(putA_H hp).1]; exact hr.good hle
   obtain ⟨τ1, σ'', hi, ht, he⟩ := DPath.first hoi hmi t (fun q hq => hc q (by simp [hq])) hle1
   obtain ⟨τ, τ2, hi', hp', he2⟩ := swap_steps hop hoi hcomm h hi hle
   obtain ⟨σ3, ht3, he3⟩ := ht.eqv he2
   exact ⟨τ, σ3, hi', .cons hmp hp' ht3, he.trans he3⟩
end Go.Vm

namespace Go.Vm
variable {P : Program}
def bits (acc : List Nat) (o : Oper) : Nat := o.after.toList.foldl (fun s e => if Region.binds .any e then s ||| 2 ^ e.on ||| acc.getD e.on 0 else s) 0
def befs : List Oper → List Nat → List Nat
 | [], acc => acc
 | o :: os, acc => befs os (acc ++ [bits acc o])
theorem befs_spec : ∀ (os : List Oper) (acc : List Nat), (∃ t, befs os acc = acc ++ t ∧ t.length = os.length) ∧
  ∀ k o, os[k]? = some o → (befs os acc)[acc.length + k]? = some (bits ((befs os acc).take (acc.length + k)) o)
 | [], acc => ⟨⟨[], by simp [befs]⟩, by simp⟩
 | o :: os, acc => by
  obtain ⟨⟨t, ht, hl⟩, ih⟩ := befs_spec os (acc ++ [bits acc o])
  refine ⟨⟨bits acc o :: t, by simp [befs, ht], by simp [hl]⟩, fun k x hk => ?_⟩
  simp only [befs]
  cases k with
  | zero =>
   simp at hk; subst hk
   rw [ht]
   simp
  | succ k =>
   simp at hk
   have := ih k x hk
   simp only [List.length_append, List.length_singleton] at this
   rw [show acc.length + (k + 1) = acc.length + 1 + k by omega]
   exact this
theorem bits_spec {acc : List Nat} {o : Oper} {p : Nat} (h : (bits acc o).testBit p = true) : ∃ e ∈ o.after, Region.binds .any e = true ∧ (e.on = p ∨ (acc.getD e.on 0).testBit p = true) := by
  unfold bits at h
  have key : ∀ (l : List Edge) (s : Nat), (l.foldl (fun s e => if Region.binds .any e then s ||| 2 ^ e.on ||| acc.getD e.on 0 else s) s).testBit p = true →
      s.testBit p = true ∨ ∃ e ∈ l, Region.binds .any e = true ∧ (e.on = p ∨ (acc.getD e.on 0).testBit p = true) := by
    intro l
    induction l with
    | nil => intro s h; exact .inl h
    | cons e l ih =>
      intro s h
      simp only [List.foldl_cons] at h
      rcases ih _ h with h | ⟨e', he', hb, hx⟩
      · split at h
        · rename_i hb
          simp only [Nat.testBit_or, Bool.or_eq_true] at h
          rcases h with (h | h) | h
          · exact .inl h
          · refine .inr ⟨e, by simp, hb, .inl ?_⟩
            rw [Nat.testBit_two_pow] at h
            simpa using h
          · exact .inr ⟨e, by simp, hb, .inr h⟩
        · exact .inl h
      · exact .inr ⟨e', by simp [he'], hb, hx⟩
  rcases key _ 0 h with h | ⟨e, he, hb, hx⟩
  · simp at h
  · exact ⟨e, by simpa using he, hb, hx⟩
def drawOk (mask : Nat) (ops : Array Oper) : Bool :=
 let B := befs ops.toList []
 (List.range ops.size).all fun i => match ops[i]? with
  | none => true
  | some oi => oi.after.toList.all (fun e => !Region.binds .any e || decide (e.on < i)) &&
   (List.range i).all fun p => ((B.getD i 0).testBit p || (!mask.testBit i && (!mask.testBit p && (match ops[p]? with | some op => comm ops op oi | none => true)))) &&
    (mask.testBit p || match ops[p]? with | some op => !(okind op == .store && okind oi == .lay) | none => true)
def Closed (ops : Array Oper) (listed : Array Bool) : Prop := ∀ j, j < ops.size → listed.getD j false = true → ∀ p, ((befs ops.toList []).getD j 0).testBit p = true → listed.getD p false = true
theorem ready_bef {ops : Array Oper} {listed : Array Bool} {i : Nat} {oi : Oper} (hoi : ops[i]? = some oi) (hback : ∀ e ∈ oi.after, Region.binds .any e = true → e.on < i) (hcl : Closed ops listed)
  (hr : ∀ e ∈ oi.after, Region.binds .any e = true → listed.getD e.on false = true) {p : Nat} (hp : ((befs ops.toList []).getD i 0).testBit p = true) : listed.getD p false = true := by
 have hi := (Array.getElem?_eq_some_iff.1 hoi).1
 have hspec := (befs_spec ops.toList []).2 i oi (by simpa using hoi)
 simp only [List.length_nil, Nat.zero_add] at hspec
 rw [List.getD_eq_getElem?_getD, hspec] at hp
 simp only [Option.getD_some] at hp
 obtain ⟨e, he, hb, hx⟩ := bits_spec hp
 have hl := hr e he hb
 have hlt := hback e he hb
 rcases hx with rfl | hx
 ·exact hl
 ·refine hcl e.on (by omega) hl p ?_
  rw [List.getD_eq_getElem?_getD] at hx ⊢
  rw [List.getElem?_take_of_lt hlt] at hx
  exact hx
def Pend (P : Program) (ops : Array Oper) (al : Nat → Option Nat) (L : List Nat) (ι : Nat → Option (Nat × Nat)) (H : List Blk) : Prop :=
 ∀ i ∈ L, ∀ o B id, ops[i]? = some o → layB P o = some B → al i = some id → ι id = none ∧ H[id]? = some B
theorem layB_row {o : Oper} {B : Blk} (h : layB P o = some B) : B.isRow = false := by
 unfold layB at h
 split at h
 ·obtain ⟨z, _, rfl⟩ := map_some h; rfl
 ·obtain ⟨z, _, rfl⟩ := map_some h; rfl
 ·cases h
theorem layB_kind {o : Oper} {B : Blk} (h : layB P o = some B) : okind o = .lay := by
 unfold layB at h
 unfold okind
 split at h
 ·rename_i ho; rw [ho]
 ·rename_i ho; rw [ho]
 ·cases h
def Waits (P : Program) (ops : Array Oper) (al : Nat → Option Nat) (L : List Nat) (H H' : List Blk) : Prop :=
 ∀ i ∈ L, ∀ o B id, ops[i]? = some o → layB P o = some B → al i = some id → H[id]? = some B → H'[id]? = some B
theorem HLe.waits {H H' : List Blk} (h : HLe H H') {ops : Array Oper} {al : Nat → Option Nat} {L : List Nat} : Waits P ops al L H H' := fun _ _ _ B id _ hB _ hH => h id B hH (Blk.loose_of (layB_row hB))
theorem DStep.sound [Outer] {ops : Array Oper} {al : Nat → Option Nat} {Hs : List (List Blk)} {i : Nat} {σ σ1 : St} (h : DStep P ops al Hs i σ σ1) {n0 : Nat} {L : List Nat}
    (hal : ∀ j id, al j = some id → n0 ≤ id) (hinj : ∀ j k id, al j = some id → al k = some id → j = k) (hbox : ∀ j id, al j = some id → notRow σ.H id) (hiL : i ∈ L)
    (hst : ∀ o, ops[i]? = some o → okind o = .store → ∀ j ∈ L, ∀ o' B, ops[j]? = some o' → layB P o' = some B → False)
    {ι : Nat → Option (Nat × Nat)} {a : Act} {w : World} {cro : Option Nat} (hs : SRel σ ι a w) (hpend : Pend P ops al L ι σ.H) {Q : Exit → Act → World → Prop} {K : Act → World → Prop}
    (hK : ∀ ι' a' w', SRel σ1 ι' a' w' → Ev ⟨σ.H, ι, w⟩ ⟨σ1.H, ι', w'⟩ → (∀ id, id < n0 → notRow σ.H id → ι id = none → ι' id = none) → Pend P ops al (L.filter (· != i)) ι' σ1.H → K a' w') :
    wpOpIn (Fr cro) 0 P ops Q i K a w := by
  obtain ⟨o, v, H', ho, hr, hp⟩ := h
  have hH := (putA_H hp).1
  -- whatever is no laying of a block: by the step's own soundness
  have plainly : AStep P ops i σ σ1 → Waits P ops al L σ.H σ1.H → wpOpIn (Fr cro) 0 P ops Q i K a w := by
    intro hstep hwt
    refine hstep.sound hs fun ι' a' w' hs' hev hnon => hK ι' a' w' hs' hev (fun id _ hn hi => hnon id hn hi) fun j hj o' B id ho' hB hal' => ?_
    have hjL : j ∈ L := (List.mem_filter.1 hj).1
    obtain ⟨hni, hHB⟩ := hpend j hjL o' B id ho' hB hal'
    exact ⟨hnon id (hbox j id hal') hni, hwt j hjL o' B id ho' hB hal' hHB⟩
  cases hr with
  | plain hk hw ha h0 => exact plainly (.val ho hw ha (fun _ h => h) hp) (by rw [hH]; exact (HLe.refl _).waits)
  | skip hw => exact plainly (.skip ho hw hp) (by rw [hH]; exact (HLe.refl _).waits)
  | store hk hw ha hmem hd =>
    exact plainly (.val ho hw ha hd hp) fun j hj o' B _ ho' hB _ _ => (hst o ho hk j hj o' B ho' hB).elim
  | eff hk hw ha hd hle' =>
    have hwt : Waits P ops al L σ.H σ1.H := by rw [hH]; exact hle'.waits
    rcases hd with rfl | ⟨f, args, rfl, hcal, hc⟩ | ⟨id, args, rfl, hc⟩
    · exact plainly (.val ho hw ha hle'.keepsD hp) hwt
    · exact plainly (.call ho hw ha hcal hc hle'.keepsD hp) hwt
    · exact plainly (.round ho hw ha hc hle'.keepsD hp) hwt
  | lay hk hw hB hali =>
    rename_i B id
    obtain ⟨hni, hBσ⟩ := hpend i hiL o B id ho hB hali
    have hBr := layB_row hB
    have hR : Rel ⟨σ.H, ι, w⟩ := hs.rel
    have place : ∀ (ob : Obj) (c : Value) (w' : World), w'.heap = w.heap.push ob → Rest w w' → (execOp a.eval o).run P w = .ok (.value c) w' → (∀ c', o.op ≠ .defer c') →
        BlkRel ⟨σ.H, upd ι id (some (w.heap.size, 0)), w'⟩ w.heap.size 0 B → VRel ⟨σ.H, upd ι id (some (w.heap.size, 0)), w'⟩ (layV o id) c → wpOpIn (Fr cro) 0 P ops Q i K a w := by
      intro ob c w' hw' hos hrun hnd hblk hv
      unfold wpOpIn
      simp only [ho]
      rw [wantedA_sound hs.vars hw]
      simp only [if_true]
      refine ⟨fun _ _ => Fr_fn _ _, ?_⟩
      rw [Oper.semAt_eq _ _ _ hnd, hrun]
      have hev := Ev.place hR (w' := w') (wm := 0) hBσ hBr hni hw' hos
      have hR' := Rel.place hR (w' := w') (wm := 0) hBσ hBr hni hw' hblk hos
      refine hK (upd ι id (some (w.heap.size, 0))) _ _ (hs.put hR' hev (fun _ h => h) hv hp) (by rw [hH]; exact hev) (fun id' hlt _ hn => ?_) fun j hj o' B' id' ho' hB' hal' => ?_
      · have := hal i id hali
        rw [upd_other _ _ _ _ (by omega)]; exact hn
      · obtain ⟨hjL, hji⟩ := List.mem_filter.1 hj
        have hne : id' ≠ id := by
          rintro rfl
          have := hinj j i id' hal' hali
          simp [this] at hji
        rw [upd_other _ _ _ _ hne, hH]
        exact hpend j hjL o' B' id' ho' hB' hal'
    unfold layB at hB
    split at hB
    · rename_i t hop
      obtain ⟨z, hz, rfl⟩ := map_some hB
      refine place (.cells z.cells t) (.pointer (some ⟨w.heap.size, 0, none⟩)) { w with heap := w.heap.push (.cells z.cells t) } rfl ⟨rfl, rfl⟩ ?_ (by rw [hop]; intro c h; cases h) ⟨z.cells, by simp, VRels.map_lit _⟩ ?_
      · unfold execOp
        rw [hop]
        simp only
        rw [Sem.run_bind]
        unfold Instr.alloc
        rw [Sem.run_bind, run_tz hz]
        simp only [Result.andThen_ok]
        rfl
      · unfold layV
        rw [hop]
        simp only [VRel]
        exact ⟨w.heap.size, 0, upd_same .., ⟨_, hBσ, rfl⟩, rfl⟩
    · rename_i t hop
      obtain ⟨p, hpp, rfl⟩ := map_some hB
      refine place (.map #[] 0) (.map (some w.heap.size)) { w with heap := w.heap.push (.map #[] 0) } rfl ⟨rfl, rfl⟩ ?_ (by rw [hop]; intro c h; cases h)
        ⟨#[], 0, by simp, ⟨⟨[], List.Perm.refl _, rfl, by simp [VRels]⟩, by simp, by simp, by simp, by simp⟩⟩ ?_
      · unfold execOp
        rw [hop]
        rfl
      · unfold layV
        rw [hop]
        simp only [VRel]
        exact ⟨w.heap.size, 0, upd_same .., ⟨_, hBσ, rfl⟩, rfl⟩
    · cases hB
def left (ops : Array Oper) (listed : Array Bool) : List Nat := (List.range ops.size).filter fun j => !(listed.getD j true)
theorem mem_left {ops : Array Oper} {listed : Array Bool} {j : Nat} : j ∈ left ops listed ↔ j < ops.size ∧ listed.getD j true = false := by
 simp [left]
theorem left_split {ops : Array Oper} {listed : Array Bool} {i : Nat} (hi : i ∈ left ops listed) :
  ∃ pre post, left ops listed = pre ++ i :: post ∧ (∀ p ∈ pre, p < i) ∧ left ops (listed.setIfInBounds i true) = pre ++ post ∧ (left ops listed).filter (· != i) = pre ++ post := by
 have hs : (left ops listed).Pairwise (· < ·) := List.Pairwise.filter _ List.pairwise_lt_range
 obtain ⟨pre, post, he⟩ := List.append_of_mem hi
 rw [he] at hs
 rw [List.pairwise_append, List.pairwise_cons] at hs
 obtain ⟨_, ⟨hpost, _⟩, hcross⟩ := hs
 have hpre : ∀ p ∈ pre, p < i := fun p hp => hcross p hp i (by simp)
 have hf : (left ops listed).filter (· != i) = pre ++ post := by
  rw [he, List.filter_append, List.filter_cons]
  have h1 : pre.filter (· != i) = pre := List.filter_eq_self.2 fun p hp => by have := hpre p hp; simp; omega
  have h2 : post.filter (· != i) = post := List.filter_eq_self.2 fun p hp => by have := hpost p hp; simp; omega
  simp [h1, h2]
 refine ⟨pre, post, he, hpre, ?_, hf⟩
 rw [← hf]
 unfold left
 rw [List.filter_filter]
 refine List.filter_congr fun j hj => ?_
 have hj : j < ops.size := by simpa using hj
 by_cases h : j = i
 ·subst h
  have : listed.getD j true = false := (mem_left.1 hi).2
  have hlt : j < listed.size := by
   rcases Nat.lt_or_ge j listed.size with h | h
   ·exact h
   ·simp [Array.getD_eq_getD_getElem?, h] at this
  simp [Array.getD_eq_getD_getElem?, hlt]
 ·rw [getD_set_ne true (Ne.symm h)]
  simp [h]
theorem drawOk_spec {mask : Nat} {ops : Array Oper} (h : drawOk mask ops = true) {i : Nat} {oi : Oper} (hi : ops[i]? = some oi) :
  (∀ e ∈ oi.after, Region.binds .any e = true → e.on < i) ∧ ∀ p op, p < i → ops[p]? = some op →
   (((befs ops.toList []).getD i 0).testBit p = true ∨ (mask.testBit i = false ∧ mask.testBit p = false ∧ comm ops op oi = true)) ∧
   (mask.testBit p = true ∨ (okind op == .store && okind oi == .lay) = false) := by
 unfold drawOk at h
 simp only [List.all_eq_true, List.mem_range] at h
 have := h i (Array.getElem?_eq_some_iff.1 hi).1
 rw [hi] at this
 simp only at this
 rw [Bool.and_eq_true] at this
 obtain ⟨h1, h2⟩ := this
 rw [List.all_eq_true] at h1 h2
 refine ⟨fun e he hb => ?_, fun p op hp ho => ?_⟩
 ·have := h1 e (by simpa using he)
  rw [hb] at this
  simpa using this
 ·have := h2 p (by simpa using hp)
  rw [ho, Bool.and_eq_true, Bool.or_eq_true, Bool.or_eq_true] at this
  refine ⟨this.1.imp_right fun h => ?_, this.2.imp_right fun h => by
   have h : (!(okind op == .store && okind oi == .lay)) = true := h
   rwa [Bool.not_eq_true'] at h⟩
  rw [Bool.and_eq_true, Bool.and_eq_true, Bool.not_eq_true', Bool.not_eq_true'] at h
  exact h
theorem draw_sound [Outer] {mask : Nat} {ops : Array Oper} {al : Nat → Option Nat} (hd : drawOk mask ops = true) {n0 : Nat} {S0 : Sit} (hS0 : n0 = S0.H.length)
    (hal : ∀ j id, al j = some id → n0 ≤ id) (hinj : ∀ j k id, al j = some id → al k = some id → j = k) {cro : Option Nat} {σf : St} :
    ∀ (fuel : Nat) (listed : Array Bool) (Hs : List (List Blk)) (σ σ' : St) (ι : Nat → Option (Nat × Nat)) (a : Act) (w : World), listed.size = ops.size → Closed ops listed →
      DPath P ops al mask Hs (left ops listed) σ σ' → σ'.Eqv σf → Good Hs σ.H → SRel σ ι a w → Pend P ops al (left ops listed) ι σ.H → (∀ j id, al j = some id → notRow σ.H id) →
      Ev S0 ⟨σ.H, ι, w⟩ → Non S0 ⟨σ.H, ι, w⟩ → (left ops listed).length ≤ fuel →
      wpAnyIn (Fr cro) 0 P .any ops (Post S0 .normal σf) fuel listed a w := by
  have empty : ∀ (listed : Array Bool) (Hs : List (List Blk)) (σ σ' : St) (ι : Nat → Option (Nat × Nat)) (a : Act) (w : World), left ops listed = [] → DPath P ops al mask Hs (left ops listed) σ σ' → σ'.Eqv σf → SRel σ ι a w →
      Ev S0 ⟨σ.H, ι, w⟩ → Non S0 ⟨σ.H, ι, w⟩ → Region.ready .any ops listed = [] ∧ Post S0 .normal σf .normal a w := by
    intro listed Hs σ σ' ι a w hl hp he hs hev hnon
    rw [hl] at hp
    cases hp
    refine ⟨?_, ι, trivial, hs.eqv he, by rw [← he.H]; exact hev, by rw [← he.H]; exact hnon⟩
    refine List.eq_nil_iff_forall_not_mem.2 fun j hj => ?_
    obtain ⟨h0, o, ho, _⟩ := mem_ready.1 hj
    have : j ∈ left ops listed := mem_left.2 ⟨(Array.getElem?_eq_some_iff.1 ho).1, h0⟩
    rw [hl] at this
    cases this
  intro fuel
  induction fuel with
  | zero =>
    intro listed Hs σ σ' ι a w hsz hcl hp he hle hs hpend hbox hev hnon hlen
    exact empty listed Hs σ σ' ι a w (by simpa using hlen) hp he hs hev hnon
  | succ fuel ih =>
    intro listed Hs σ σ' ι a w hsz hcl hp he hle hs hpend hbox hev hnon hlen
    have conv : ∀ j, j < ops.size → listed.getD j false = listed.getD j true := fun j hj => by
      simp [Array.getD_eq_getD_getElem?, hsz ▸ hj]
    constructor
    · intro hready
      refine (empty listed Hs σ σ' ι a w ?_ hp he hs hev hnon).2
      cases hl : left ops listed with
      | nil => rfl
      | cons i rest =>
        exfalso
        have himem : i ∈ left ops listed := by rw [hl]; simp
        obtain ⟨hi1, hi2⟩ := mem_left.1 himem
        obtain ⟨oi, hoi⟩ : ∃ oi, ops[i]? = some oi := ⟨ops[i], by simp [hi1]⟩
        obtain ⟨pre, post, hsp, hpre, _⟩ := left_split himem
        have hpre0 : pre = [] := by
          rw [hl] at hsp
          cases pre with
          | nil => rfl
          | cons p pre =>
            simp only [List.cons_append, List.cons.injEq] at hsp
            have := hpre p (by simp)
            omega
        have : i ∈ Region.ready .any ops listed := by
          refine mem_ready.2 ⟨hi2, oi, hoi, fun e hemem hb => ?_⟩
          have hlt := (drawOk_spec hd hoi).1 e hemem hb
          rw [conv _ (by omega)]
          cases hg : listed.getD e.on true with
          | true => rfl
          | false =>
            have hm : e.on ∈ left ops listed := mem_left.2 ⟨by omega, hg⟩
            rw [hsp, hpre0] at hm
            have hs' : (left ops listed).Pairwise (· < ·) := List.Pairwise.filter _ List.pairwise_lt_range
            rw [hsp, hpre0, List.nil_append, List.pairwise_cons] at hs'
            rcases List.mem_cons.1 hm with h | h
            · omega
            · have := hs'.1 _ h; omega
        rw [hready] at this
        cases this
    · intro i hi
      obtain ⟨hi0, oi, hoi, hafter⟩ := mem_ready.1 hi
      have hilt := (Array.getElem?_eq_some_iff.1 hoi).1
      have himem : i ∈ left ops listed := mem_left.2 ⟨hilt, hi0⟩
      obtain ⟨pre, post, hsp, hpre, hleft, hfil⟩ := left_split himem
      obtain ⟨hback, hcomm⟩ := drawOk_spec hd hoi
      have getop : ∀ p, p < ops.size → ∃ op, ops[p]? = some op := fun p hp => ⟨ops[p]'hp, by simp [hp]⟩
      have hc0 : ∀ p ∈ left ops listed, p < i → mask.testBit i = false ∧ mask.testBit p = false ∧ ∃ op, ops[p]? = some op ∧ comm ops op oi = true := by
        intro p hpm hplt
        obtain ⟨op, hop⟩ := getop p (by omega)
        have := (hcomm p op hplt hop).1.resolve_left fun hb => by
          have h1 := ready_bef hoi hback hcl hafter hb
          have h2 := (mem_left.1 hpm).2
          rw [conv p (by omega), h2] at h1
          cases h1
        exact ⟨this.1, this.2.1, op, hop, this.2.2⟩
      have hc : ∀ p ∈ pre, mask.testBit p = false ∧ ∃ op, ops[p]? = some op ∧ comm ops op oi = true := fun p hpm => (hc0 p (by rw [hsp]; simp [hpm]) (hpre p hpm)).2
      have hsz' : (listed.setIfInBounds i true).size = ops.size := by simpa using hsz
      have hcl' : Closed ops (listed.setIfInBounds i true) := by
        intro j hj hlj p hb
        by_cases hpi : p = i
        · subst hpi; simp [Array.getD_eq_getD_getElem?, hsz ▸ hilt]
        · rw [getD_set_ne false (Ne.symm hpi)]
          by_cases hji : j = i
          · subst hji; exact ready_bef hoi hback hcl hafter hb
          · rw [getD_set_ne false (Ne.symm hji)] at hlj
            exact hcl j hj hlj p hb
      have hlen' : (left ops (listed.setIfInBounds i true)).length ≤ fuel := by
        rw [hleft]
        rw [hsp] at hlen
        simp at hlen ⊢
        omega
      by_cases hks : mask.testBit i = true
      · -- a barrier stands first
        have hpre0 : pre = [] := by
          cases pre with
          | nil => rfl
          | cons p pre =>
            have := (hc0 p (by rw [hsp]; simp) (hpre p (by simp))).1
            rw [hks] at this; cases this
        subst hpre0
        rw [hsp, List.nil_append] at hp
        cases hp with
        | cons hm => rw [hks] at hm; cases hm
        | barrier hm hst hf hg t =>
          rename_i Hs' σ1
          refine hst.sound hs fun ι' a' w' hs' hev' hnon' => ?_
          refine ih _ Hs' σ1 σ' ι' a' w' hsz' hcl' (hleft ▸ t) he hg hs' ?_ (fun j id h => (hev'.ptr id (hbox j id h)).1) (hev.trans hev') (hnon.trans hev hnon') hlen'
          intro j hj o' B id ho' hB hal'
          have hjp : j ∈ post := by rw [hleft] at hj; simpa using hj
          have hjL : j ∈ left ops listed := by rw [hsp]; simp [hjp]
          obtain ⟨h1, h2⟩ := hpend j hjL o' B id ho' hB hal'
          exact ⟨hnon' id (hbox j id hal') h1, by rw [hf j hjp id hal']; exact h2⟩
      · have hks : mask.testBit i = false := by simpa using hks
        rw [hsp] at hp
        obtain ⟨τ, σ'', hst, hrest, heq⟩ := hp.first hoi hks hc hle
        have hgτ : Good Hs τ.H := by
          obtain ⟨o, v, H', _, hr, hpp⟩ := hst
          rw [(putA_H hpp).1]; exact hr.good hle
        refine hst.sound hal hinj hbox himem (fun o ho hk j hj o' B ho' hB => ?_) hs hpend fun ι' a' w' hs' hev' hnon' hpend' => ?_
        · rw [hoi] at ho; cases ho
          have hkj := layB_kind hB
          rcases Nat.lt_trichotomy j i with h | h | h
          · obtain ⟨_, _, op, hop, hcc⟩ := hc0 j hj h
            rw [hop] at ho'; cases ho'
            unfold comm at hcc
            rw [hkj, hk] at hcc
            simp at hcc
          · subst h; rw [hoi] at ho'; cases ho'; rw [hk] at hkj; cases hkj
          · have := ((drawOk_spec hd ho').2 i oi h hoi).2
            rw [hks, hk, hkj] at this
            simp at this
        · refine ih _ Hs τ σ'' ι' a' w' hsz' hcl' (hleft ▸ hrest) (heq.symm.trans he) hgτ hs' (by rw [hleft, ← hfil]; exact hpend') (fun j id h => (hev'.ptr id (hbox j id h)).1) (hev.trans hev') ?_ hlen'
          intro id hn hi0
          exact hnon' id (by rw [hS0]; exact hn.lt) (hev.ptr id hn).1 (hnon id hn hi0)
def hoisted (P : Program) (ops : Array Oper) : List Blk := ops.toList.map fun o => (layB P o).getD .defd
def alAt (P : Program) (n : Nat) (ops : Array Oper) : Nat → Option Nat := fun j => match ops[j]? with
 | some o => match layB P o with
  | some _ => some (n + j)
  | none => none
 | none => none
theorem alAt_spec {n : Nat} {ops : Array Oper} {j id : Nat} (h : alAt P n ops j = some id) : id = n + j ∧ j < ops.size := by
 unfold alAt at h
 split at h
 ·rename_i o ho
  split at h
  ·cases h; exact ⟨rfl, (Array.getElem?_eq_some_iff.1 ho).1⟩
  ·cases h
 ·cases h
theorem Run.region_draw {ro : Option Nat} {id : Nat} {ops : Array Oper} {σ σ' : St} {mask : Nat} {Hs : List (List Blk)} (hm : P.follows .mixedOrders = true) (hd : drawOk mask ops = true) (hHs : (σ.H ++ hoisted P ops) ∈ Hs)
  (h : DPath P ops (alAt P σ.H.length ops) mask Hs (List.range ops.size) { σ with H := σ.H ++ hoisted P ops } σ') : Run P ro (.region id ops true) σ .normal σ' := by
 intro O ι a w cro hro hs
 refine wpIn_region_any hm ?_
 have hleft : left ops (Array.replicate ops.size false) = List.range ops.size := by
  unfold left
  refine List.filter_eq_self.2 fun j hj => ?_
  have : j < ops.size := by simpa using hj
  simp [Array.getD_eq_getD_getElem?, this]
 have hR : Rel ⟨σ.H, ι, w⟩ := hs.rel
 have hR1 : Rel ⟨σ.H ++ hoisted P ops, ι, { w with drawn := w.drawn + 1 }⟩ := Rel.fresh hR fun _ _ => rfl
 have hev : Ev ⟨σ.H, ι, w⟩ ⟨σ.H ++ hoisted P ops, ι, { w with drawn := w.drawn + 1 }⟩ := Ev.fresh hR fun _ _ => rfl
 have hat : ∀ j, j < ops.size → (σ.H ++ hoisted P ops)[σ.H.length + j]? = (ops[j]?).map fun o => (layB P o).getD .defd := by
  intro j hj
  rw [List.getElem?_append_right (by omega)]
  simp [hoisted]
 refine draw_sound hd (n0 := σ.H.length) rfl (fun j id' hj => by have := alAt_spec hj; omega) (fun j k id' hj hk => by have := alAt_spec hj; have := alAt_spec hk; omega)
  ops.size _ Hs { σ with H := σ.H ++ hoisted P ops } σ' ι a _ (by simp) ?_ (hleft ▸ h) (St.Eqv.refl _) ⟨_, hHs, HLe.refl _⟩ ⟨hR1, hs.size, hs.vars.ev hev, hs.defs.ev hev fun id' hid => ?_⟩ ?_ ?_ hev (Non.same) (by rw [hleft]; simp)
 ·intro j hj hl
  have : j < ops.size := hj
  simp [Array.getD_eq_getD_getElem?, this] at hl
 ·exact HLe.append _ _ id' _ hid rfl
 ·intro j hj o B id' ho hB hal
  obtain ⟨rfl, hlt⟩ := alAt_spec hal
  refine ⟨?_, ?_⟩
  ·cases hi : ι (σ.H.length + j) with
   | none => rfl
   | some p => have h9 : σ.H.length + j < σ.H.length := hR.lt hi; omega
  ·have := hat j hlt
   rw [ho] at this
   simpa [hB] using this
 ·intro j id' hj
  obtain ⟨rfl, hlt⟩ := alAt_spec hj
  have := hat j hlt
  rw [show ops[j]? = some ops[j] by simp [hlt]] at this
  refine ⟨_, this, ?_⟩
  show ((layB P ops[j]).getD .defd).isRow = false
  cases hB : layB P ops[j] with
  | none => rfl
  | some B => exact layB_row hB
end Go.Vm

namespace Go.Vm
inductive PanOne (P : Program) (ops : Array Oper) (i : Nat) : St → AV → St → Prop where
  | op {m : Bool} {σ : St} {o : Oper} {v : AV} (ho : ops[i]? = some o) (hw : wantedA ops σ.vars o = some true) (ha : aop P m σ.H σ.eval o = some (.pan v)) : PanOne P ops i σ v σ
  | call {m : Bool} {σ : St} {o : Oper} {f : FuncId} {args : List AV} {v : AV} {H' : List Blk} (ho : ops[i]? = some o) (hw : wantedA ops σ.vars o = some true)
      (ha : aop P m σ.H σ.eval o = some (.call f args)) (hcal : callable P f = true) (hc : ACall P f args σ.H (.pan v) H') (hd : keepsD σ.H H') : PanOne P ops i σ v { σ with H := H' }
theorem PanOne.all {P : Program} {ops : Array Oper} {i : Nat} {l : List Nat} {σ σ' : St} {v : AV} (h : PanOne P ops i σ v σ') : APanics P ops (i :: l) σ v σ' := by
 cases h with
 | op ho hw ha => exact .op ho hw ha
 | call ho hw ha hcal hc hd => exact .call ho hw ha hcal hc hd
theorem PanOne.one [Outer] {P : Program} {ops : Array Oper} {i : Nat} {σ σ' σf : St} {v : AV} {cro : Option Nat} {S0 : Sit} (h : PanOne P ops i σ v σ') {ι : Nat → Option (Nat × Nat)} {a : Act} {w : World} (hs : SRel σ ι a w) (he : σ'.Eqv σf)
  (hev : Ev S0 ⟨σ.H, ι, w⟩) (hnon : Non S0 ⟨σ.H, ι, w⟩) {K : Act → World → Prop} : wpOpIn (Fr cro) 0 P ops (Post S0 (.pan v) σf) i K a w := by
 cases h with
 | op ho hw ha =>
  unfold wpOpIn
  simp only [ho]
  rw [wantedA_sound hs.vars hw]
  simp only [if_true]
  refine ⟨fun _ _ => Fr_fn _ _, ?_⟩
  obtain ⟨c, hx, hv⟩ := aop_sound hs.rel (St.eval_sound hs) ha
  rw [Oper.semAt_eq _ _ _ (aop_noDefer ha), hx]
  exact ⟨ι, by rw [← he.H]; exact ⟨c, rfl, hv⟩, hs.eqv he, by rw [← he.H]; exact hev, by rw [← he.H]; exact hnon⟩
 | call ho hw ha hcal hc hd =>
  rename_i o f args H'
  unfold wpOpIn
  simp only [ho]
  rw [wantedA_sound hs.vars hw]
  simp only [if_true]
  refine ⟨fun _ _ => Fr_fn _ _, ?_⟩
  obtain ⟨cs, hx, hargs⟩ := aop_sound hs.rel (St.eval_sound hs) ha hcal
  rw [Oper.semAt_eq _ _ _ (aop_noDefer ha), hx]
  refine ⟨fun h => (by simp [Fr_depth] at h), ?_⟩
  have hcall : CallsIn (Fr cro) 0 P _ cs w (EPost ⟨σ.H, ι, w⟩ (.pan v) H') := hc _ ι w cs hs.rel hargs
  refine hcall.mono ?_
  rintro e w' ⟨ι', hend, hR, hev', hnon'⟩
  have hx : SRel { σ with H := H' } ι' a w' := ⟨hR, hs.size, hs.vars.ev hev', hs.defs.ev hev' hd⟩
  have e2 : σf.H = H' := he.H.symm
  cases e with
  | returned c => exact hend.elim
  | panicked chain => exact ⟨ι', by rw [e2]; exact hend, hx.eqv he, by rw [e2]; exact hev.trans hev', by rw [e2]; exact hnon.trans hev hnon'⟩
  | outgrown => exact hend.elim
inductive DPan (P : Program) (ops : Array Oper) (al : Nat → Option Nat) (mask : Nat) : List (List Blk) → List Nat → St → AV → St → Prop
  | pan {Hs : List (List Blk)} {i : Nat} {l : List Nat} {σ σ' : St} {v : AV} (hm : mask.testBit i = true) (h : PanOne P ops i σ v σ') : DPan P ops al mask Hs (i :: l) σ v σ'
  | cons {Hs : List (List Blk)} {i : Nat} {l : List Nat} {σ σ1 σ2 : St} {v : AV} (hm : mask.testBit i = false) (h : DStep P ops al Hs i σ σ1) (t : DPan P ops al mask Hs l σ1 v σ2) : DPan P ops al mask Hs (i :: l) σ v σ2
  | barrier {Hs Hs' : List (List Blk)} {i : Nat} {l : List Nat} {σ σ1 σ2 : St} {v : AV} (hm : mask.testBit i = true) (h : AStep P ops i σ σ1) (hf : ∀ j ∈ l, ∀ id, al j = some id → σ1.H[id]? = σ.H[id]?)
      (hg : Good Hs' σ1.H) (t : DPan P ops al mask Hs' l σ1 v σ2) : DPan P ops al mask Hs (i :: l) σ v σ2
theorem PanOne.eqv {P : Program} {ops : Array Oper} {i : Nat} {σ σ' τ : St} {v : AV} (h : PanOne P ops i σ v σ') (he : σ.Eqv τ) : ∃ τ', PanOne P ops i τ v τ' ∧ σ'.Eqv τ' := by
 cases h with
 | op ho hw ha =>
  refine ⟨τ, .op ho (by rw [← wantedA_eqv he.vars]; exact hw) (by rw [← he.H, ← he.eval]; exact ha), he⟩
 | call ho hw ha hcal hc hd =>
  rename_i H'
  refine ⟨{ τ with H := H' }, .call ho (by rw [← wantedA_eqv he.vars]; exact hw) (by rw [← he.H, ← he.eval]; exact ha) hcal (by rw [← he.H]; exact hc) (by rw [← he.H]; exact hd), ⟨he.n, rfl, he.defs, he.vars⟩⟩
theorem DPan.eqv {P : Program} {ops : Array Oper} {al : Nat → Option Nat} {mask : Nat} : ∀ {Hs : List (List Blk)} {l : List Nat} {σ σ2 τ : St} {v : AV}, DPan P ops al mask Hs l σ v σ2 → σ.Eqv τ → ∃ τ2, DPan P ops al mask Hs l τ v τ2 ∧ σ2.Eqv τ2
 | _, _, _, _, _, _, .pan hm h, he => by
  obtain ⟨τ', h', he'⟩ := h.eqv he
  exact ⟨τ', .pan hm h', he'⟩
 | _, _, _, _, _, _, .cons hm h t, he => by
  obtain ⟨τ1, h1, he1⟩ := h.eqv he
  obtain ⟨τ2, t2, he2⟩ := DPan.eqv t he1
  exact ⟨τ2, .cons hm h1 t2, he2⟩
 | _, _, _, _, _, _, .barrier hm h hf hg t, he => by
  obtain ⟨τ1, h1, he1⟩ := h.eqv he
  obtain ⟨τ2, t2, he2⟩ := DPan.eqv t he1
  exact ⟨τ2, .barrier hm h1 (by rw [← he.H, ← he1.H]; exact hf) (by rw [← he1.H]; exact hg) t2, he2⟩
theorem DPan.first {P : Program} {mask : Nat} {ops : Array Oper} {al : Nat → Option Nat} {Hs : List (List Blk)} {i : Nat} {oi : Oper} {post : List Nat} (hoi : ops[i]? = some oi) (hmi : mask.testBit i = false) : ∀ {pre : List Nat} {σ σ' : St} {v : AV},
  DPan P ops al mask Hs (pre ++ i :: post) σ v σ' → (∀ p ∈ pre, mask.testBit p = false ∧ ∃ op, ops[p]? = some op ∧ comm ops op oi = true) → Good Hs σ.H →
  ∃ τ σ'', DStep P ops al Hs i σ τ ∧ DPan P ops al mask Hs (pre ++ post) τ v σ'' ∧ σ'.Eqv σ''
 | [], σ, σ', _, h, _, _ => by
  cases h with
  | cons hm h t => exact ⟨_, σ', h, t, St.Eqv.refl _⟩
  | barrier hm => rw [hmi] at hm; cases hm
  | pan hm => rw [hmi] at hm; cases hm
 | p :: pre, σ, σ', _, h, hc, hle => by
  obtain ⟨hmp, op, hop, hcomm⟩ := hc p (by simp)
  rw [List.cons_append] at h
  cases h with
  | barrier hm => rw [hmp] at hm; cases hm
  | pan hm => rw [hmp] at hm; cases hm
  | cons hm h t =>
   rename_i σ1
   have hle1 : Good Hs σ1.H := by
    obtain ⟨o, v, H', _, hr, hp⟩ := h
    rw [(putA_H hp).1]; exact hr.good hle
   obtain ⟨τ1, σ'', hi, ht, he⟩ := DPan.first hoi hmi t (fun q hq => hc q (by simp [hq])) hle1
   obtain ⟨τ, τ2, hi', hp', he2⟩ := swap_steps hop hoi hcomm h hi hle
   obtain ⟨σ3, ht3, he3⟩ := ht.eqv he2
   exact ⟨τ, σ3, hi', .cons hmp hp' ht3, he.trans he3⟩
section
variable {P : Program}
theorem draw_pan [Outer] {mask : Nat} {ops : Array Oper} {al : Nat → Option Nat} (hd : drawOk mask ops = true) {n0 : Nat} {S0 : Sit} (hS0 : n0 = S0.H.length)
  (hal : ∀ j id, al j = some id → n0 ≤ id) (hinj : ∀ j k id, al j = some id → al k = some id → j = k) {cro : Option Nat} {v0 : AV} {σf : St} :
  ∀ (fuel : Nat) (listed : Array Bool) (Hs : List (List Blk)) (σ σ' : St) (ι : Nat → Option (Nat × Nat)) (a : Act) (w : World), listed.size = ops.size → Closed ops listed →
   DPan P ops al mask Hs (left ops listed) σ v0 σ' → σ'.Eqv σf → Good Hs σ.H → SRel σ ι a w → Pend P ops al (left ops listed) ι σ.H → (∀ j id, al j = some id → notRow σ.H id) →
   Ev S0 ⟨σ.H, ι, w⟩ → Non S0 ⟨σ.H, ι, w⟩ → (left ops listed).length ≤ fuel →
   wpAnyIn (Fr cro) 0 P .any ops (Post S0 (.pan v0) σf) fuel listed a w := by
 have empty : ∀ (listed : Array Bool) (Hs : List (List Blk)) (σ σ' : St), left ops listed = [] → DPan P ops al mask Hs (left ops listed) σ v0 σ' → False := by
  intro listed Hs σ σ' hl hp
  rw [hl] at hp
  cases hp
 intro fuel
 induction fuel with
 | zero =>
  intro listed Hs σ σ' ι a w hsz hcl hp he hle hs hpend hbox hev hnon hlen
  exact (empty listed Hs σ σ' (by simpa using hlen) hp).elim
 | succ fuel ih =>
  intro listed Hs σ σ' ι a w hsz hcl hp he hle hs hpend hbox hev hnon hlen
  have conv : ∀ j, j < ops.size → listed.getD j false = listed.getD j true := fun j hj => by
   simp [Array.getD_eq_getD_getElem?, hsz ▸ hj]
  constructor
  ·intro hready
   refine (empty listed Hs σ σ' ?_ hp).elim
   cases hl : left ops listed with
   | nil => rfl
   | cons i rest =>
    exfalso
    have himem : i ∈ left ops listed := by rw [hl]; simp
    obtain ⟨hi1, hi2⟩ := mem_left.1 himem
    obtain ⟨oi, hoi⟩ : ∃ oi, ops[i]? = some oi := ⟨ops[i], by simp [hi1]⟩
    obtain ⟨pre, post, hsp, hpre, _⟩ := left_split himem
    have hpre0 : pre = [] := by
     rw [hl] at hsp
     cases pre with
     | nil => rfl
     | cons p pre =>
      simp only [List.cons_append, List.cons.injEq] at hsp
      have := hpre p (by simp)
      omega
    have : i ∈ Region.ready .any ops listed := by
     refine mem_ready.2 ⟨hi2, oi, hoi, fun e hemem hb => ?_⟩
     have hlt := (drawOk_spec hd hoi).1 e hemem hb
     rw [conv _ (by omega)]
     cases hg : listed.getD e.on true with
     | true => rfl
     | false =>
      have hm : e.on ∈ left ops listed := mem_left.2 ⟨by omega, hg⟩
      rw [hsp, hpre0] at hm
      have hs' : (left ops listed).Pairwise (· < ·) := List.Pairwise.filter _ List.pairwise_lt_range
      rw [hsp, hpre0, List.nil_append, List.pairwise_cons] at hs'
      rcases List.mem_cons.1 hm with h | h
      ·omega
      ·have := hs'.1 _ h; omega
    rw [hready] at this
    cases this
  ·intro i hi
   obtain ⟨hi0, oi, hoi, hafter⟩ := mem_ready.1 hi
   have hilt := (Array.getElem?_eq_some_iff.1 hoi).1
   have himem : i ∈ left ops listed := mem_left.2 ⟨hilt, hi0⟩
   obtain ⟨pre, post, hsp, hpre, hleft, hfil⟩ := left_split himem
   obtain ⟨hback, hcomm⟩ := drawOk_spec hd hoi
   have getop : ∀ p, p < ops.size → ∃ op, ops[p]? = some op := fun p hp => ⟨ops[p]'hp, by simp [hp]⟩
   have hc0 : ∀ p ∈ left ops listed, p < i → mask.testBit i = false ∧ mask.testBit p = false ∧ ∃ op, ops[p]? = some op ∧ comm ops op oi = true := by
    intro p hpm hplt
    obtain ⟨op, hop⟩ := getop p (by omega)
    have := (hcomm p op hplt hop).1.resolve_left fun hb => by
     have h1 := ready_bef hoi hback hcl hafter hb
     have h2 := (mem_left.1 hpm).2
     rw [conv p (by omega), h2] at h1
     cases h1
    exact ⟨this.1, this.2.1, op, hop, this.2.2⟩
   have hc : ∀ p ∈ pre, mask.testBit p = false ∧ ∃ op, ops[p]? = some op ∧ comm ops op oi = true := fun p hpm => (hc0 p (by rw [hsp]; simp [hpm]) (hpre p hpm)).2
   have hsz' : (listed.setIfInBounds i true).size = ops.size := by simpa using hsz
   have hcl' : Closed ops (listed.setIfInBounds i true) := by
    intro j hj hlj p hb
    by_cases hpi : p = i
    ·subst hpi; simp [Array.getD_eq_getD_getElem?, hsz ▸ hilt]
    ·rw [getD_set_ne false (Ne.symm hpi)]
     by_cases hji : j = i
     ·subst hji; exact ready_bef hoi hback hcl hafter hb
     ·rw [getD_set_ne false (Ne.symm hji)] at hlj
      exact hcl j hj hlj p hb
   have hlen' : (left ops (listed.setIfInBounds i true)).length ≤ fuel := by
    rw [hleft]
    rw [hsp] at hlen
    simp at hlen ⊢
    omega
   by_cases hks : mask.testBit i = true
   ·-- a barrier stands first
    have hpre0 : pre = [] := by
     cases pre with
     | nil => rfl
     | cons p pre =>
      have := (hc0 p (by rw [hsp]; simp) (hpre p (by simp))).1
      rw [hks] at this; cases this
    subst hpre0
    rw [hsp, List.nil_append] at hp
    cases hp with
    | cons hm => rw [hks] at hm; cases hm
    | pan hm h => exact h.one hs he hev hnon
    | barrier hm hst hf hg t =>
     rename_i Hs' σ1
     refine hst.sound hs fun ι' a' w' hs' hev' hnon' => ?_
     refine ih _ Hs' σ1 σ' ι' a' w' hsz' hcl' (hleft ▸ t) he hg hs' ?_ (fun j id h => (hev'.ptr id (hbox j id h)).1) (hev.trans hev') (hnon.trans hev hnon') hlen'
     intro j hj o' B id ho' hB hal'
     have hjp : j ∈ post := by rw [hleft] at hj; simpa using hj
     have hjL : j ∈ left ops listed := by rw [hsp]; simp [hjp]
     obtain ⟨h1, h2⟩ := hpend j hjL o' B id ho' hB hal'
     exact ⟨hnon' id (hbox j id hal') h1, by rw [hf j hjp id hal']; exact h2⟩
   ·have hks : mask.testBit i = false := by simpa using hks
    rw [hsp] at hp
    obtain ⟨τ, σ'', hst, hrest, heq⟩ := hp.first hoi hks hc hle
    have hgτ : Good Hs τ.H := by
     obtain ⟨o, v, H', _, hr, hpp⟩ := hst
     rw [(putA_H hpp).1]; exact hr.good hle
    refine hst.sound hal hinj hbox himem (fun o ho hk j hj o' B ho' hB => ?_) hs hpend fun ι' a' w' hs' hev' hnon' hpend' => ?_
    ·rw [hoi] at ho; cases ho
     have hkj := layB_kind hB
     rcases Nat.lt_trichotomy j i with h | h | h
     ·obtain ⟨_, _, op, hop, hcc⟩ := hc0 j hj h
      rw [hop] at ho'; cases ho'
      unfold comm at hcc
      rw [hkj, hk] at hcc
      simp at hcc
     ·subst h; rw [hoi] at ho'; cases ho'; rw [hk] at hkj; cases hkj
     ·have := ((drawOk_spec hd ho').2 i oi h hoi).2
      rw [hks, hk, hkj] at this
      simp at this
    ·refine ih _ Hs τ σ'' ι' a' w' hsz' hcl' (hleft ▸ hrest) (heq.symm.trans he) hgτ hs' (by rw [hleft, ← hfil]; exact hpend') (fun j id h => (hev'.ptr id (hbox j id h)).1) (hev.trans hev') ?_ hlen'
     intro id hn hi0
     exact hnon' id (by rw [hS0]; exact hn.lt) (hev.ptr id hn).1 (hnon id hn hi0)
theorem Run.region_draw_pan {ro : Option Nat} {id : Nat} {ops : Array Oper} {σ σ' : St} {v : AV} {mask : Nat} {Hs : List (List Blk)} (hm : P.follows .mixedOrders = true) (hd : drawOk mask ops = true) (hHs : (σ.H ++ hoisted P ops) ∈ Hs)
  (h : DPan P ops (alAt P σ.H.length ops) mask Hs (List.range ops.size) { σ with H := σ.H ++ hoisted P ops } v σ') : Run P ro (.region id ops true) σ (.pan v) σ' := by
 intro O ι a w cro hro hs
 refine wpIn_region_any hm ?_
 have hleft : left ops (Array.replicate ops.size false) = List.range ops.size := by
  unfold left
  refine List.filter_eq_self.2 fun j hj => ?_
  have : j < ops.size := by simpa using hj
  simp [Array.getD_eq_getD_getElem?, this]
 have hR : Rel ⟨σ.H, ι, w⟩ := hs.rel
 have hR1 : Rel ⟨σ.H ++ hoisted P ops, ι, { w with drawn := w.drawn + 1 }⟩ := Rel.fresh hR fun _ _ => rfl
 have hev : Ev ⟨σ.H, ι, w⟩ ⟨σ.H ++ hoisted P ops, ι, { w with drawn := w.drawn + 1 }⟩ := Ev.fresh hR fun _ _ => rfl
 have hat : ∀ j, j < ops.size → (σ.H ++ hoisted P ops)[σ.H.length + j]? = (ops[j]?).map fun o => (layB P o).getD .defd := by
  intro j hj
  rw [List.getElem?_append_right (by omega)]
  simp [hoisted]
 refine draw_pan hd (n0 := σ.H.length) rfl (fun j id' hj => by have := alAt_spec hj; omega) (fun j k id' hj hk => by have := alAt_spec hj; have := alAt_spec hk; omega)
  ops.size _ Hs { σ with H := σ.H ++ hoisted P ops } σ' ι a _ (by simp) ?_ (hleft ▸ h) (St.Eqv.refl _) ⟨_, hHs, HLe.refl _⟩ ⟨hR1, hs.size, hs.vars.ev hev, hs.defs.ev hev fun id' hid => ?_⟩ ?_ ?_ hev (Non.same) (by rw [hleft]; simp)
 ·intro j hj hl
  have : j < ops.size := hj
  simp [Array.getD_eq_getD_getElem?, this] at hl
 ·exact HLe.append _ _ id' _ hid rfl
 ·intro j hj o B id' ho hB hal
  obtain ⟨rfl, hlt⟩ := alAt_spec hal
  refine ⟨?_, ?_⟩
  ·cases hi : ι (σ.H.length + j) with
   | none => rfl
   | some p => have h9 : σ.H.length + j < σ.H.length := hR.lt hi; omega
  ·have := hat j hlt
   rw [ho] at this
   simpa [hB] using this
 ·intro j id' hj
  obtain ⟨rfl, hlt⟩ := alAt_spec hj
  have := hat j hlt
  rw [show ops[j]? = some ops[j] by simp [hlt]] at this
  refine ⟨_, this, ?_⟩
  show ((layB P ops[j]).getD .defd).isRow = false
  cases hB : layB P ops[j] with
  | none => rfl
  | some B => exact layB_row hB
end
end Go.Vm
