/-
  A region that draws its order: what only reads (by a mask) is carried out first, in the order of the text; what is left comes in one order alone.
  Conditions: the masks pass the closed look 'hoistB'; each read yields one value in every world of the class C; a late operation leaves a world of C.
-/
import Derived.Deep.QuietTactic
import Derived.BigQuiet
import Derived.WalkKit
namespace Go.WW
open Go
theorem run_bind {α β : Type} {P : Program} (s : Sem α) (f : α → Sem β) : ∀ w, (s.bind f).run P w = match s.run P w with | .ok x w' => (f x).run P w' | .halt h w' => .halt h w' := by
  induction s with
  | pure a => intro w; rfl
  | load m a k ih => intro w; simp only [Sem.bind, Sem.run]; split; · exact ih _ _
                     split; · exact ih _ _
                     rfl
  | store m a v k ih =>
    intro w
    cases v <;> simp only [Sem.bind, Sem.run] <;> first | rfl | skip
    all_goals
      split
      · split; · rfl
        exact ih _
      · split; · exact ih _
        rfl
  | new o k ih => intro w; simp only [Sem.bind, Sem.run]; exact ih _ _
  | shape r k ih => intro w; simp only [Sem.bind, Sem.run]; exact ih _ _
  | freeze a n k ih => intro w; simp only [Sem.bind, Sem.run]; exact ih _
  | frozen a k ih => intro w; simp only [Sem.bind, Sem.run]; exact ih _ _
  | getObj r k ih => intro w; simp only [Sem.bind, Sem.run]; split <;> first | rfl | exact ih _ _
  | setObj r o k ih => intro w; simp only [Sem.bind, Sem.run]; split <;> first | rfl | exact ih _
  | choose q k ih => intro w; simp only [Sem.bind, Sem.run]; split <;> exact ih _ _
  | sys c k ih => intro w; simp only [Sem.bind, Sem.run]; exact ih _ _
  | program k ih => intro w; simp only [Sem.bind, Sem.run]; exact ih _ _
  | mark m k ih => intro w; simp only [Sem.bind, Sem.run]; exact ih _
  | halt h => intro w; rfl
/-- Operations that hand back a value or halt: no call, no store. -/
def plainOp : Op → Bool
  | .move _ | .assign _ | .pick .. | .load .. | .binOp .. | .unOp .. | .convert .. | .slice .. | .fieldAddr .. | .field .. | .indexAddr .. | .index .. | .lookup .. | .build .. | .extract .. | .makeInterface .. | .typeAssert .. => true
  | .nilCheck _ => true
  | .call { callee := .builtin .len, .. } | .call { callee := .builtin .cap, .. } | .call { callee := .builtin .max, .. } | .call { callee := .builtin .min, .. } => true
  | _ => false
/-- Whatever it is run in: if it ends well it has handed back a value. -/
def OnlyValues (s : Sem Next) : Prop := ∀ (P : Program) (w w' : World) (n : Next), s.run P w = .ok n w' → ∃ u, n = .value u
theorem OnlyValues.bind {α : Type} {s : Sem α} {f : α → Sem Next} (h : ∀ x, OnlyValues (f x)) : OnlyValues (s.bind f) := by
  intro P w w' n hr
  rw [run_bind] at hr
  split at hr
  · exact h _ P _ _ _ hr
  · cases hr
theorem OnlyValues.pure (v : Value) : OnlyValues (Sem.pure (.value v)) := by
  intro P w w' n hr
  simp only [Sem.run] at hr
  injection hr with h1
  exact ⟨_, h1.symm⟩
theorem OnlyValues.halt (h : Halt) : OnlyValues (Sem.halt h) := by
  intro P w w' n hr
  simp only [Sem.run] at hr
  cases hr
theorem OnlyValues.panic (e : RuntimeError) : OnlyValues (runtimePanic e) := by
  refine OnlyValues.bind (s := program) (fun p => ?_)
  cases e <;> first | exact OnlyValues.halt _ | exact OnlyValues.bind fun _ => OnlyValues.bind fun _ => OnlyValues.halt _
theorem OnlyValues.val (s : Sem Value) : OnlyValues (s.bind fun x => Sem.pure (.value x)) := OnlyValues.bind fun _ => OnlyValues.pure _
theorem plain_values {o : Oper} (ρ : Operand → Value) (h : plainOp o.op = true) : OnlyValues (execOp ρ o) := by
  obtain ⟨dst, op, type, pos, after, guard⟩ := o
  cases op <;> simp only [plainOp, Bool.false_eq_true] at h <;> simp only [execOp]
  all_goals first
    | exact OnlyValues.pure _
    | exact OnlyValues.val _
    | skip
  case nilCheck x =>
    split
    · exact OnlyValues.panic _
    · exact OnlyValues.panic _
    · exact OnlyValues.panic _
    · split
      · exact OnlyValues.panic _
      · refine OnlyValues.bind fun p => OnlyValues.bind fun b => ?_
        split
        · exact OnlyValues.bind fun _ => OnlyValues.pure _
        · exact OnlyValues.pure _
      · exact OnlyValues.pure _
    · exact OnlyValues.pure _
  case pick c a b => exact OnlyValues.bind fun _ => OnlyValues.pure _
  case call c =>
    obtain ⟨callee, args, argTypes⟩ := c
    cases callee with
    | builtin b =>
      cases b <;> simp only [Bool.false_eq_true] at h
      all_goals exact OnlyValues.val _
    | value f => simp at h
    | invoke r m => simp at h

/-! ### The walk -/
def no : Exit → Act → World → Prop := fun _ _ _ => False
/-- Nothing but the normal end. -/
abbrev only (K : Act → World → Prop) : Exit → Act → World → Prop := Exit.then K no
section
variable {P : Program} {ops : Array Oper} {md : Region.Mode} {K : Act → World → Prop} {C : World → Prop} {late : Nat → Bool}
def wpAnyC (P : Program) (md : Region.Mode) (ops : Array Oper) (K : Act → World → Prop) (C : World → Prop) (late : Nat → Bool) : Nat → Array Bool → Act → World → Prop
  | 0, listed, a, w => Region.ready md ops listed = [] ∧ K a w
  | fuel + 1, listed, a, w =>
    (Region.ready md ops listed = [] → K a w) ∧
    ∀ i ∈ Region.ready md ops listed, wpOp P ops (only K) i (fun a' w' => (late i = true → C w') ∧ wpAnyC P md ops K C late fuel (listed.setIfInBounds i true) a' w') a w
theorem Oper.wp_monoQ {o : Oper} {a : Act} {w : World} {K' : Act → World → Prop} {Q Q' : Exit → Act → World → Prop} (h : ∀ e a w, Q e a w → Q' e a w) (hh : o.wp P a w K' Q) : o.wp P a w K' Q' := by
  unfold Oper.wp at *
  generalize (execOp a.eval o).run P w = r at *
  cases r with
  | ok n w' =>
    cases n <;> simp only [Oper.upon] at hh ⊢ <;>
      first
        | exact hh
        | exact Calls.mono hh (fun e w'' he => by cases e <;> first | exact he | exact h _ _ _ he | (obtain ⟨a0, w0, h0⟩ := he; exact ⟨a0, w0, h _ _ _ h0⟩))
  | halt x w' => cases x <;> simp only [Oper.upon] at hh ⊢ <;> first | exact hh | exact h _ _ _ hh
theorem wpOp_monoQ {i : Nat} {a : Act} {w : World} {K' : Act → World → Prop} {Q Q' : Exit → Act → World → Prop} (h : ∀ e a w, Q e a w → Q' e a w) (hh : wpOp P ops Q i K' a w) : wpOp P ops Q' i K' a w := by
  unfold wpOp at *
  split
  · simpa [*] using hh
  · rename_i o ho
    simp only [ho] at hh
    split
    · rename_i hw
      simp only [hw, if_true] at hh
      rcases hh with hh | ⟨h1, a0, w0, h2⟩
      · exact .inl (Oper.wp_monoQ h hh)
      · exact .inr ⟨h1, a0, w0, h _ _ _ h2⟩
    · rename_i hw; simp only [hw] at hh; exact hh
theorem wpAny_of_C {Q : Exit → Act → World → Prop} (hK : ∀ a w, K a w → Q .normal a w) : ∀ (fuel : Nat) (listed : Array Bool) (a : Act) (w : World), wpAnyC P md ops K C late fuel listed a w → wpAny P md ops Q fuel listed a w
  | 0, _, _, _, h => ⟨h.1, hK _ _ h.2⟩
  | fuel + 1, _, _, _, h => ⟨fun h0 => hK _ _ (h.1 h0), fun i hi => wpOp_monoQ (Q := only K) (fun e a w he => by cases e <;> first | exact hK _ _ he | exact he.elim)
      (wpOp_mono (fun a' w' h' => wpAny_of_C hK fuel _ a' w' h'.2) (h.2 i hi))⟩
/-- One value, in every world of the class; or passed over. -/
def YieldsV (P : Program) (ops : Array Oper) (C : World → Prop) (o : Oper) (v : Value) (a : Act) : Prop :=
  (Region.wanted o (yielded ops a.tmps) = true ∧ ∀ w, C w → (execOp a.eval o).run P w = .ok (.value v) w) ∨
  (Region.wanted o (yielded ops a.tmps) = false ∧ v = undef)
theorem YieldsV.of_same {o : Oper} {v : Value} {a a' : Act} (hy : YieldsV P ops C o v a) (he : execOp a'.eval o = execOp a.eval o)
    (hw : Region.wanted o (yielded ops a'.tmps) = Region.wanted o (yielded ops a.tmps)) : YieldsV P ops C o v a' := by
  unfold YieldsV at *
  rw [he, hw]
  exact hy
theorem YieldsV.wpOp {i : Nat} {o : Oper} {v : Value} {a : Act} {w : World} {Q : Exit → Act → World → Prop} (hi : ops[i]? = some o) (hw : C w) (hy : YieldsV P ops C o v a) {K' : Act → World → Prop} (h : K' (a.put o.dst v) w) : wpOp P ops Q i K' a w := by
  unfold Go.wpOp
  simp only [hi]
  rcases hy with ⟨h1, h2⟩ | ⟨h1, rfl⟩
  · simp only [h1, if_true]
    refine .inl ?_
    unfold Oper.wp
    rw [h2 w hw]
    exact h
  · simp only [h1, Bool.false_eq_true, if_false]
    exact h
theorem wpOp_putV {j : Nat} {oi oj : Oper} {v : Value} (hj : ops[j]? = some oj) (hap : oi.apart ops oj = true)
    (hsi : ∀ cs b, oi.op ≠ .select cs b) (hsj : ∀ cs b, oj.op ≠ .select cs b) {K' : Act → World → Prop} {a : Act} {w : World}
    (hy : YieldsV P ops C oi v a) (h : wpOp P ops (only K) j K' (a.put oi.dst v) w) :
    wpOp P ops (only K) j (fun a' w' => YieldsV P ops C oi v a' ∧ K' (a'.put oi.dst v) w') a w := by
  obtain ⟨h1, h2, h3⟩ := Oper.apart_spec hap
  have keep : ∀ (a : Act), YieldsV P ops C oi v a → ∀ u, YieldsV P ops C oi v (a.put oj.dst u) := fun a hy u =>
    hy.of_same (execOp_put oi hsi a oj.dst u h3) (wanted_put oi a oj.dst u h3)
  have keepD : ∀ d, YieldsV P ops C oi v { a with defers := d :: a.defers } := fun d => hy.of_same rfl rfl
  unfold wpOp at *
  simp only [hj] at *
  rw [wanted_put oj a oi.dst v h1] at h
  split
  · rename_i hw
    simp only [hw, if_true] at h
    rcases h with h | ⟨hasks, a0, w0, h0⟩
    case inr => exact (h0 : False).elim
    refine .inl ?_
    unfold Oper.wp at *
    rw [execOp_put oj hsj a oi.dst v h1] at h
    generalize (execOp a.eval oj).run P w = r at *
    cases r with
    | ok n w' =>
      cases n <;> simp only [Oper.upon] at h ⊢
      case value u => exact ⟨keep a hy u, by rw [← Act.put_comm a v u h2]; exact h⟩
      case skip => exact ⟨keep a hy _, by rw [← Act.put_comm a v undef h2]; exact h⟩
      case defer d =>
        refine ⟨keep _ (keepD d) _, ?_⟩
        rw [← Act.put_comm _ v undef h2, ← Act.put_defers]
        exact h
      case enter f args =>
        refine Calls.mono h fun e w'' he => ?_
        cases e with
        | returned u => exact ⟨keep a hy u, by rw [← Act.put_comm a v u h2]; exact he⟩
        | panicked c => exact (he : False).elim
        | outgrown => obtain ⟨_, _, h0⟩ := he; exact (h0 : False).elim
      case row row args => exact Rows.mono h fun u w'' he => ⟨keep a hy u, by rw [← Act.put_comm a v u h2]; exact he⟩
    | halt x w' =>
      cases x <;> simp only [Oper.upon] at h ⊢
      case panic u => exact (h : False).elim
  · rename_i hw
    simp only [hw] at h
    exact ⟨keep a hy _, by rw [← Act.put_comm a v undef h2]; exact h⟩
/-- What is listed is closed: each listed operation's needs are. -/
def ClosedL (md : Region.Mode) (ops : Array Oper) (listed : Array Bool) : Prop := ∀ j o, ops[j]? = some o → listed.getD j true = true → ∀ e ∈ o.after, Region.binds md e = true → listed.getD e.on false = true
theorem ClosedL.set {listed : Array Bool} {j : Nat} (hc : ClosedL md ops listed) (hj : j ∈ Region.ready md ops listed) : ClosedL md ops (listed.setIfInBounds j true) := by
  intro k o hk hl e he hb
  by_cases hjk : j = k
  · subst hjk
    obtain ⟨_, o', ho', hall⟩ := mem_ready.1 hj
    rw [ho'] at hk
    injection hk with hk
    subst hk
    exact getD_set_true (hall e he hb)
  · rw [getD_set_ne true hjk] at hl
    exact getD_set_true (hc k o hk hl e he hb)
/-- i is listed wherever all that j waits for is. -/
def AncP (md : Region.Mode) (ops : Array Oper) (i j : Nat) : Prop := ∀ listed : Array Bool, ClosedL md ops listed → (∀ o, ops[j]? = some o → ∀ e ∈ o.after, Region.binds md e = true → listed.getD e.on false = true) → listed.getD i false = true
def ancF (md : Region.Mode) (acc : List Nat) (es : List Edge) : Nat := es.foldr (fun e s => if Region.binds md e = true then (2 ^ e.on ||| acc.getD e.on 0) ||| s else s) 0
def ancs (md : Region.Mode) : List Oper → List Nat → List Nat
  | [], acc => acc
  | o :: r, acc => ancs md r (acc ++ [ancF md acc o.after.toList])
theorem ancF_bit {acc : List Nat} {i : Nat} : ∀ {es : List Edge}, (ancF md acc es).testBit i = true → ∃ e ∈ es, Region.binds md e = true ∧ (e.on = i ∨ (acc.getD e.on 0).testBit i = true)
  | [], h => by simp [ancF] at h
  | e :: r, h => by
    unfold ancF at h
    rw [List.foldr_cons] at h
    by_cases hb : Region.binds md e = true
    · rw [if_pos hb, Nat.testBit_or, Nat.testBit_or, Bool.or_eq_true, Bool.or_eq_true] at h
      rcases h with (h | h) | h
      · rw [Nat.testBit_two_pow] at h
        exact ⟨e, List.mem_cons_self, hb, .inl (of_decide_eq_true h)⟩
      · exact ⟨e, List.mem_cons_self, hb, .inr h⟩
      · obtain ⟨e', he', h1, h2⟩ := ancF_bit (es := r) h
        exact ⟨e', List.mem_cons_of_mem _ he', h1, h2⟩
    · rw [if_neg hb] at h
      obtain ⟨e', he', h1, h2⟩ := ancF_bit (es := r) h
      exact ⟨e', List.mem_cons_of_mem _ he', h1, h2⟩
theorem ancs_sound : ∀ (l : List Oper) (acc : List Nat), (∀ j, l[j]? = ops[acc.length + j]?) → (∀ j i, (acc.getD j 0).testBit i = true → AncP md ops i j) → ∀ j i, ((ancs md l acc).getD j 0).testBit i = true → AncP md ops i j
  | [], acc, _, h => h
  | o :: r, acc, hl, h => by
    refine ancs_sound r (acc ++ [ancF md acc o.after.toList]) (fun j => by have := hl (j + 1); simpa [Nat.add_assoc, Nat.add_comm 1 j] using this) (fun j i hb => ?_)
    rw [List.getD_eq_getElem?_getD] at hb
    rcases Nat.lt_trichotomy j acc.length with hj | hj | hj
    · rw [List.getElem?_append_left hj, ← List.getD_eq_getElem?_getD] at hb
      exact h j i hb
    · subst hj
      rw [List.getElem?_concat_length, Option.getD_some] at hb
      obtain ⟨e, he, h1, h2⟩ := ancF_bit hb
      intro listed hc hd
      have ho : ops[acc.length]? = some o := by simpa using (hl 0).symm
      have h3 := hd o ho e (by simpa using he) h1
      rcases h2 with h2 | h2
      · rw [← h2]; exact h3
      · refine h e.on i h2 listed hc (fun o' ho' => hc e.on o' ho' ?_)
        rcases Nat.lt_or_ge e.on listed.size with h' | h'
        · simp [h'] at h3 ⊢; exact h3
        · simp [Array.getElem?_eq_none h'] at h3
    · rw [List.getElem?_eq_none (by simp; omega)] at hb
      simp at hb
/-- An operation that may come up now and yields its value in every world of the class may be taken first. -/
theorem wpAnyC_first {i : Nat} {oi : Oper} {v : Value} (hi : ops[i]? = some oi) (hsel : ∀ (j : Nat) (o : Oper) cs b, ops[j]? = some o → o.op ≠ .select cs b)
    (hlate : ∀ j, late j = false → AncP md ops i j) :
    ∀ (fuel : Nat) (listed : Array Bool) (a : Act) (w : World), C w → ClosedL md ops listed →
      (∀ j oj, ops[j]? = some oj → j ≠ i → listed.getD j true = false → (∀ e ∈ oj.after, Region.binds md e = true → e.on ≠ i) → oi.apart ops oj = true) →
      i ∈ Region.ready md ops listed → YieldsV P ops C oi v a →
      wpAnyC P md ops K C late fuel (listed.setIfInBounds i true) (a.put oi.dst v) w → wpAnyC P md ops K C late (fuel + 1) listed a w := by
  intro fuel
  induction fuel with
  | zero =>
    intro listed a w hw _ _ hr hy H
    refine ⟨fun h => (by rw [h] at hr; cases hr), fun j hj => ?_⟩
    by_cases hji : j = i
    · subst hji; exact hy.wpOp hi hw ⟨fun _ => hw, H⟩
    · have := ready_mono hj hji
      rw [H.1] at this
      cases this
  | succ fuel ih =>
    intro listed a w hw hcl hfree hr hy H
    refine ⟨fun h => (by rw [h] at hr; cases hr), fun j hj => ?_⟩
    by_cases hji : j = i
    · subst hji; exact hy.wpOp hi hw ⟨fun _ => hw, H⟩
    · have h1 := H.2 j (ready_mono hj hji)
      obtain ⟨hjun, oj, hoj, hall⟩ := mem_ready.1 hj
      have h0 := (mem_ready.1 hr).1
      have hi0 : listed.getD i false ≠ true := by
        rcases Nat.lt_or_ge i listed.size with h' | h'
        · simp [h'] at h0 ⊢; exact h0
        · simp [Array.getElem?_eq_none h'] at h0
      have hnot : ∀ e ∈ oj.after, Region.binds md e = true → e.on ≠ i := fun e he hb heq => by
        have h1 := hall e he hb
        rw [heq] at h1
        exact hi0 h1
      have hlj : late j = true := by
        cases hl : late j with
        | true => rfl
        | false => exact absurd (hlate j hl listed hcl (fun o ho e he hb => by rw [hoj] at ho; injection ho with ho; subst ho; exact hall e he hb)) hi0
      have h2 := wpOp_putV hoj (hfree j oj hoj hji hjun hnot) (fun cs b => hsel i oi cs b hi) (fun cs b => hsel j oj cs b hoj) hy h1
      have hfree' : ∀ k ok, ops[k]? = some ok → k ≠ i → (listed.setIfInBounds j true).getD k true = false →
          (∀ e ∈ ok.after, Region.binds md e = true → e.on ≠ i) → oi.apart ops ok = true := fun k ok hk hki hun hno => by
        refine hfree k ok hk hki ?_ hno
        by_cases hjk : j = k
        · subst hjk; exact hjun
        · rw [getD_set_ne true hjk] at hun; exact hun
      refine wpOp_mono (fun a' w' h3 => ⟨fun hl => h3.2.1 hl, ih (listed.setIfInBounds j true) a' w' (h3.2.1 hlj) (hcl.set hj) hfree' (ready_mono hr (Ne.symm hji)) h3.1 ?_⟩) h2
      rw [Array.setIfInBounds_comm _ _ hji]
      exact h3.2.2
/-! ### By a mask: true: a read -/
def pickR : List Bool → List Oper → List Oper
  | true :: m, o :: l => o :: pickR m l
  | false :: m, _ :: l => pickR m l
  | _, _ => []
def pickE : List Bool → List Oper → List Oper
  | true :: m, _ :: l => pickE m l
  | false :: m, o :: l => o :: pickE m l
  | _, _ => []
def lateOf : List Bool → Nat → List Bool
  | [], _ => []
  | true :: m, n => true :: lateOf m n
  | false :: m, n + 1 => true :: lateOf m n
  | false :: m, 0 => false :: lateOf m 0
def hoistR (md : Region.Mode) (ops : Array Oper) : List Bool → Nat → Array Bool → Bool × Array Bool
  | [], _, listed => (true, listed)
  | true :: m, k, listed =>
    ((Region.ready md ops listed).contains k && Region.free md ops listed k && ((ops[k]?).map fun o => plainOp o.op).getD false && (hoistR md ops m (k + 1) (listed.setIfInBounds k true)).1, (hoistR md ops m (k + 1) (listed.setIfInBounds k true)).2)
  | false :: m, k, listed => hoistR md ops m (k + 1) listed
def hoistE (md : Region.Mode) (ops : Array Oper) : List Bool → Nat → Array Bool → Bool
  | [], _, listed => Region.ready md ops listed == []
  | false :: m, k, listed => (Region.ready md ops listed == [k]) && hoistE md ops m (k + 1) (listed.setIfInBounds k true)
  | true :: m, k, listed => hoistE md ops m (k + 1) listed
def hoistB (md : Region.Mode) (l : List Oper) (m : List Bool) (nl : Nat) : Bool :=
  Region.noSelect l.toArray && (m.length == l.length) && (hoistR md l.toArray m 0 (Array.replicate l.length false)).1 && hoistE md l.toArray m 0 (hoistR md l.toArray m 0 (Array.replicate l.length false)).2 &&
  (List.range l.length).all fun j => (lateOf m nl).getD j true || (List.range l.length).all fun i => !m.getD i false || ((ancs md l []).getD j 0).testBit i
/-- The late ones one by one, the class holding behind each; then all others. -/
def wpLate (P : Program) (ops : Array Oper) (K : Act → World → Prop) (C : World → Prop) : List Oper → List Oper → Act → World → Prop
  | [], rest, a, w => wpList P ops (only K) rest a w
  | o :: l, rest, a, w => wpList P ops (only fun a' w' => C w' ∧ wpLate P ops K C l rest a' w') [o] a w
theorem value_of_quiet {o : Oper} {a : Act} {v : Value} (hp : plainOp o.op = true) (h : ∀ w, C w → o.quietAt P a C w v) : ∀ w, C w → (execOp a.eval o).run P w = .ok (.value v) w := by
  intro w hw
  have h1 := h w hw
  unfold Oper.quietAt at h1
  have hv := plain_values (o := o) a.eval hp P w
  generalize (execOp a.eval o).run P w = r at *
  cases r with
  | ok n w' =>
    obtain ⟨u, rfl⟩ := hv w' n rfl
    obtain ⟨rfl, rfl⟩ : w' = w ∧ u = v := h1
    rfl
  | halt x w' => exact (h1 : False).elim
theorem wpAnyC_R (hs : Region.noSelect ops = true) {Q : Act → Prop} {w : World} (hw : C w) (n : Nat) : ∀ (m : List Bool) (l : List Oper) (k : Nat) (listed : Array Bool) (a : Act), m.length = l.length → (∀ j, l[j]? = ops[k + j]?) → ClosedL md ops listed →
    (hoistR md ops m k listed).1 = true → (∀ j, late j = false → ∀ i, m.getD i false = true → AncP md ops (k + i) j) → (∀ a', Q a' → wpAnyC P md ops K C late n (hoistR md ops m k listed).2 a' w) → wpQuiet P ops C Q (pickR m l) a → wpAnyC P md ops K C late ((pickR m l).length + n) listed a w
  | [], _, k, listed, a, hlen, _, _, _, _, hQ, h => by simpa [pickR, hoistR] using hQ a (by simpa [pickR, wpQuiet] using h)
  | b :: m, [], k, listed, a, hlen, _, _, _, _, _, _ => by simp at hlen
  | false :: m, o :: l, k, listed, a, hlen, hl, hc, hB, hL, hQ, h => by
    simp only [pickR] at h ⊢
    exact wpAnyC_R hs hw n m l (k + 1) listed a (by simpa using hlen) (fun j => by have := hl (j + 1); simpa [Nat.add_assoc, Nat.add_comm 1 j] using this) hc hB
      (fun j hj i hi => by have := hL j hj (i + 1) (by simpa using hi); rwa [show k + 1 + i = k + (i + 1) from by omega]) hQ h
  | true :: m, o :: l, k, listed, a, hlen, hl, hc, hB, hL, hQ, h => by
    simp only [pickR] at h ⊢
    have h0 : ops[k]? = some o := by simpa using (hl 0).symm
    simp only [hoistR, Bool.and_eq_true] at hB
    obtain ⟨⟨⟨hr, hf⟩, hp⟩, hB'⟩ := hB
    rw [h0] at hp
    have hp' : plainOp o.op = true := by simpa using hp
    have hrm : k ∈ Region.ready md ops listed := by simpa using hr
    have hq : ∃ v, YieldsV P ops C o v a ∧ wpQuiet P ops C Q (pickR m l) (a.put o.dst v) := by
      unfold wpQuiet at h
      by_cases hwd : Region.wanted o (yielded ops a.tmps) = true
      · simp only [hwd, if_true] at h
        obtain ⟨v, h1, h2⟩ := h
        exact ⟨v, .inl ⟨hwd, value_of_quiet hp' h1⟩, h2⟩
      · simp only [hwd] at h
        exact ⟨undef, .inr ⟨by simpa using hwd, rfl⟩, h⟩
    obtain ⟨v, hy, h2⟩ := hq
    have h3 := wpAnyC_R hs hw n m l (k + 1) (listed.setIfInBounds k true) (a.put o.dst v) (by simpa using hlen) (fun j => by have := hl (j + 1); simpa [Nat.add_assoc, Nat.add_comm 1 j] using this) (hc.set hrm) hB'
      (fun j hj i hi => by have := hL j hj (i + 1) (by simpa using hi); rwa [show k + 1 + i = k + (i + 1) from by omega]) hQ h2
    rw [List.length_cons, show (pickR m l).length + 1 + n = (pickR m l).length + n + 1 from by omega]
    exact wpAnyC_first h0 (Region.noSelect_spec hs) (fun j hj => by have := hL j hj 0 (by simp); simpa using this) _ listed a w hw hc (Region.free_spec h0 hf) hrm hy h3
theorem wpAnyC_E : ∀ (m : List Bool) (l : List Oper) (nl k : Nat) (listed : Array Bool) (a : Act) (w : World), m.length = l.length → (∀ j, l[j]? = ops[k + j]?) → hoistE md ops m k listed = true →
    (∀ j, j < l.length → late (k + j) = (lateOf m nl).getD j true) → wpLate P ops K C ((pickE m l).take nl) ((pickE m l).drop nl) a w → wpAnyC P md ops K C late (pickE m l).length listed a w
  | [], l, nl, k, listed, a, w, hlen, hl, hB, hL, h => by
    have h1 : pickE [] l = [] := by cases l <;> rfl
    rw [h1] at h ⊢
    simp only [hoistE, beq_iff_eq] at hB
    refine ⟨hB, ?_⟩
    rw [List.take_nil, List.drop_nil] at h
    exact h
  | b :: m, [], nl, k, listed, a, w, hlen, hl, hB, hL, h => by simp at hlen
  | true :: m, o :: l, nl, k, listed, a, w, hlen, hl, hB, hL, h => by
    simp only [pickE] at h ⊢
    exact wpAnyC_E m l nl (k + 1) listed a w (by simpa using hlen) (fun j => by have := hl (j + 1); simpa [Nat.add_assoc, Nat.add_comm 1 j] using this) hB
      (fun j hj => by have := hL (j + 1) (by simpa using hj); rw [show k + 1 + j = k + (j + 1) from by omega, this]; rfl) h
  | false :: m, o :: l, nl, k, listed, a, w, hlen, hl, hB, hL, h => by
    simp only [pickE] at h ⊢
    have h0 : ops[k]? = some o := by simpa using (hl 0).symm
    simp only [hoistE, Bool.and_eq_true, beq_iff_eq] at hB
    obtain ⟨hr, hB'⟩ := hB
    rw [List.length_cons]
    refine ⟨fun h => (by rw [hr] at h; cases h), fun i hi => ?_⟩
    rw [hr, List.mem_singleton] at hi
    subst hi
    have hl' : ∀ j, l[j]? = ops[i + 1 + j]? := fun j => by have := hl (j + 1); simpa [Nat.add_assoc, Nat.add_comm 1 j] using this
    cases nl with
    | zero =>
      rw [List.take_zero, List.drop_zero] at h
      have hlt : late i = false := by have := hL 0 (by simp); simpa [lateOf] using this
      have hL' : ∀ j, j < l.length → late (i + 1 + j) = (lateOf m 0).getD j true := fun j hj => by have := hL (j + 1) (by simpa using hj); rw [show i + 1 + j = i + (j + 1) from by omega, this]; simp [lateOf]
      have h1 : wpOp P ops (only K) i (wpList P ops (only K) (pickE m l)) a w := by
        unfold wpOp
        simp only [h0]
        exact h
      refine wpOp_mono (fun a' w' h2 => ⟨fun hl => (by rw [hlt] at hl; cases hl), ?_⟩) h1
      exact wpAnyC_E m l 0 (i + 1) (listed.setIfInBounds i true) a' w' (by simpa using hlen) hl' hB' hL' (by rw [List.take_zero, List.drop_zero]; exact h2)
    | succ nl =>
      rw [List.take_succ_cons, List.drop_succ_cons] at h
      have hL' : ∀ j, j < l.length → late (i + 1 + j) = (lateOf m nl).getD j true := fun j hj => by have := hL (j + 1) (by simpa using hj); rw [show i + 1 + j = i + (j + 1) from by omega, this]; simp [lateOf]
      have h1 : wpOp P ops (only fun a' w' => C w' ∧ wpLate P ops K C ((pickE m l).take nl) ((pickE m l).drop nl) a' w') i (fun a' w' => C w' ∧ wpLate P ops K C ((pickE m l).take nl) ((pickE m l).drop nl) a' w') a w := by
        unfold wpOp
        simp only [h0]
        exact h
      have h2 : wpOp P ops (only K) i (fun a' w' => C w' ∧ wpLate P ops K C ((pickE m l).take nl) ((pickE m l).drop nl) a' w') a w := by
        unfold wpOp at h1 ⊢
        simp only [h0] at h1 ⊢
        split
        · rename_i hw
          simp only [hw, if_true] at h1
          rcases h1 with h1 | ⟨_, _, _, h2⟩
          · refine .inl ?_
            unfold Oper.wp at h1 ⊢
            generalize (execOp a.eval o).run P w = r at *
            cases r with
            | ok n w' =>
              cases n <;> simp only [Oper.upon] at h1 ⊢ <;>
                first
                  | exact h1
                  | exact Calls.mono h1 (fun e w'' he => by cases e <;> first | exact he | exact (he : False).elim | (obtain ⟨_, _, h0⟩ := he; exact (h0 : False).elim))
            | halt x w' => cases x <;> simp only [Oper.upon] at h1 ⊢ <;> exact (h1 : False).elim
          · exact (h2 : False).elim
        · rename_i hw
          simp only [hw] at h1
          exact h1
      refine wpOp_mono (fun a' w' h3 => ⟨fun _ => h3.1, ?_⟩) h2
      exact wpAnyC_E m l nl (i + 1) (listed.setIfInBounds i true) a' w' (by simpa using hlen) hl' hB' hL' h3.2
theorem pick_length : ∀ (m : List Bool) (l : List Oper), m.length = l.length → (pickR m l).length + (pickE m l).length = l.length
  | [], [], _ => rfl
  | [], _ :: _, h => by simp at h
  | _ :: _, [], h => by simp at h
  | true :: m, o :: l, h => by have := pick_length m l (by simpa using h); simp only [pickR, pickE, List.length_cons]; omega
  | false :: m, o :: l, h => by have := pick_length m l (by simpa using h); simp only [pickR, pickE, List.length_cons]; omega
/-- THE LAW. -/
theorem wp_region_hoist {id : Nat} {Q : Exit → Act → World → Prop} {a : Act} {w : World} {l : List Oper} (m : List Bool) (nl : Nat) (C : World → Prop) (hm : P.follows .mixedOrders = true) (hB : hoistB .any l m nl = true) (hC : C w.drew)
    (h : wpQuiet P l.toArray C (fun a' => wpLate P l.toArray (fun a w => Q .normal a w) C ((pickE m l).take nl) ((pickE m l).drop nl) a' w.drew) (pickR m l) a) : (Code.region id l.toArray true).wp P Q a w := by
  simp only [hoistB, Bool.and_eq_true] at hB
  obtain ⟨⟨⟨⟨hs, hlen⟩, hR⟩, hE⟩, hL⟩ := hB
  have hlen : m.length = l.length := by simpa using hlen
  have hsz : l.toArray.size = l.length := by simp
  refine wp_region_any hm (wpAny_of_C (K := fun a w => Q .normal a w) (C := C) (late := fun j => (lateOf m nl).getD j true) (fun _ _ h => h) _ _ _ _ ?_)
  have hanc : ∀ j i, ((ancs .any l []).getD j 0).testBit i = true → AncP .any l.toArray i j := ancs_sound l [] (fun j => by simp) (fun j i h => by simp at h)
  have hlo : ∀ (m : List Bool) (nl : Nat), (lateOf m nl).length = m.length := by
    intro m
    induction m with
    | nil => intro nl; rfl
    | cons b m ih => intro nl; cases b <;> cases nl <;> simp [lateOf, ih]
  have hlate : ∀ j, (lateOf m nl).getD j true = false → ∀ i, m.getD i false = true → AncP .any l.toArray (0 + i) j := by
    intro j hj i hi
    rw [Nat.zero_add]
    have hjl : j < l.length := by
      rcases Nat.lt_or_ge j l.length with h' | h'
      · exact h'
      · rw [List.getD_eq_getElem?_getD, List.getElem?_eq_none (by rw [hlo]; omega)] at hj; simp at hj
    have hil : i < l.length := by
      rcases Nat.lt_or_ge i l.length with h' | h'
      · exact h'
      · rw [List.getD_eq_getElem?_getD, List.getElem?_eq_none (by omega)] at hi; simp at hi
    have h1 := List.all_eq_true.1 hL j (List.mem_range.2 hjl)
    rw [hj, Bool.false_or] at h1
    have h2 := List.all_eq_true.1 h1 i (List.mem_range.2 hil)
    rw [hi] at h2
    exact hanc j i (by simpa using h2)
  have hc0 : ClosedL .any l.toArray (Array.replicate l.length false) := by
    intro j o ho hl
    rcases Nat.lt_or_ge j l.length with h' | h'
    · simp [h'] at hl
    · rw [Array.getElem?_eq_none (by simpa using h')] at ho; cases ho
  have h1 := wpAnyC_R (P := P) (K := fun a w => Q .normal a w) (late := fun j => (lateOf m nl).getD j true) hs hC (pickE m l).length m l 0 (Array.replicate l.length false) a hlen (fun j => by simp) hc0 hR hlate
    (fun a' ha' => wpAnyC_E m l nl 0 _ a' w.drew hlen (fun j => by simp) hE (fun j _ => by rw [Nat.zero_add]) ha') h
  rw [pick_length m l hlen] at h1
  rw [hsz]
  exact h1
end
end Go.WW
