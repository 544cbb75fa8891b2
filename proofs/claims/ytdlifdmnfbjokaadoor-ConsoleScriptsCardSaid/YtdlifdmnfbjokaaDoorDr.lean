/- A region that draws its order: every order that its edges allow leads to the frame of the text's order,
   if each operation yields its value in every world of its phase (phases: how many of the 'loud' operations are done). -/
import Derived.Orders
import Derived.Tactics
import Derived.RowKit3
namespace Go.Proofs.YtdlifdmnfbjokaaDoor
open Go

namespace Dr

/-- Operation o's predecessors by binding edges, as a mask; acc: the masks of the operations before it in the text. -/
def maskOf (acc : List Nat) (o : Oper) : Nat :=
  o.after.foldl (fun s e => if Region.binds .any e then s ||| 2 ^ e.on ||| acc.getD e.on 0 else s) 0

def masks : List Oper → List Nat → List Nat
  | [], acc => acc
  | o :: r, acc => masks r (acc ++ [maskOf acc o])

/-- What an operation names: its operands, its guard's slot, its own slot. -/
def names (ops : Array Oper) (o : Oper) : List Tmp := o.looksAt ops ++ o.dst.toList

def noSelect (o : Oper) : Bool := match o.op with | .select .. => false | _ => true

def okB (ops : Array Oper) : Bool :=
  let ms := masks ops.toList []
  (List.range ops.size).all (fun i => match ops[i]? with
    | none => true
    | some o => noSelect o && o.after.all (fun e => !Region.binds .any e || decide (e.on < i)) &&
      (List.range ops.size).all fun j => j == i || match (ops[j]?).bind (·.dst) with
        | none => true
        | some d => !(names ops o).contains d || (decide (j < i) && (ms.getD i 0).testBit j) || (decide (i < j) && (ms.getD j 0).testBit i))

theorem binds_false {s : Nat} {l : List Edge} {acc : List Nat} {j : Nat} :
    (l.foldl (fun s e => if Region.binds .any e then s ||| 2 ^ e.on ||| acc.getD e.on 0 else s) s).testBit j = true →
    s.testBit j = true ∨ ∃ e ∈ l, Region.binds .any e = true ∧ (e.on = j ∨ (acc.getD e.on 0).testBit j = true) := by
  induction l generalizing s with
  | nil => intro h; exact .inl h
  | cons e l ih =>
    intro h
    rw [List.foldl_cons] at h
    rcases ih h with h1 | ⟨e', he', h2⟩
    · by_cases hb : Region.binds .any e = true
      · rw [if_pos hb, Nat.testBit_or, Nat.testBit_or, Nat.testBit_two_pow] at h1
        simp only [Bool.or_eq_true, decide_eq_true_eq] at h1
        rcases h1 with (h1 | h1) | h1
        · exact .inl h1
        · exact .inr ⟨e, List.mem_cons_self, hb, .inl h1⟩
        · exact .inr ⟨e, List.mem_cons_self, hb, .inr h1⟩
      · rw [if_neg hb] at h1; exact .inl h1
    · exact .inr ⟨e', List.mem_cons_of_mem _ he', h2⟩

theorem maskOf_spec {acc : List Nat} {o : Oper} {j : Nat} (h : (maskOf acc o).testBit j = true) :
    ∃ e ∈ o.after, Region.binds .any e = true ∧ (e.on = j ∨ (acc.getD e.on 0).testBit j = true) := by
  unfold maskOf at h
  rw [← Array.foldl_toList] at h
  rcases binds_false h with h1 | ⟨e, he, h2⟩
  · simp at h1
  · exact ⟨e, by simpa using he, h2⟩

theorem masks_len : ∀ (l : List Oper) (acc : List Nat), (masks l acc).length = acc.length + l.length
  | [], acc => by simp [masks]
  | o :: r, acc => by simp only [masks]; rw [masks_len r]; simp; omega

theorem masks_old : ∀ (l : List Oper) (acc : List Nat) (i : Nat), i < acc.length → (masks l acc).getD i 0 = acc.getD i 0
  | [], acc, i, _ => rfl
  | o :: r, acc, i, h => by
    simp only [masks]
    rw [masks_old r _ i (by simp; omega)]
    simp [List.getElem?_append_left h]

theorem masks_at : ∀ (l : List Oper) (acc : List Nat) (i : Nat) (o : Oper), l[i]? = some o →
    ∃ acc', acc'.length = acc.length + i ∧ (masks l acc).getD (acc.length + i) 0 = maskOf acc' o ∧ ∀ k, k < acc.length + i → acc'.getD k 0 = (masks l acc).getD k 0
  | [], acc, i, o, h => by simp at h
  | o' :: r, acc, 0, o, h => by
    have : o' = o := by simpa using h
    subst this
    refine ⟨acc, by simp, ?_, fun k hk => ?_⟩
    · simp only [masks, Nat.add_zero]
      rw [masks_old r _ _ (by simp)]
      simp
    · simp only [masks]
      rw [masks_old r _ _ (by simp; omega)]
      simp [List.getElem?_append_left (show k < acc.length by omega)]
  | o' :: r, acc, i + 1, o, h => by
    obtain ⟨acc', h1, h2, h3⟩ := masks_at r (acc ++ [maskOf acc o']) i o (by simpa using h)
    have e : (acc ++ [maskOf acc o']).length + i = acc.length + (i + 1) := by simp; omega
    rw [e] at h1 h2 h3
    exact ⟨acc', h1, by simpa only [masks] using h2, fun k hk => by simpa only [masks] using h3 k hk⟩

section
variable {P : Program} {ops : Array Oper} {Q : Exit → Act → World → Prop} {loud : List Nat}

def mk (ops : Array Oper) (i : Nat) : Nat := (masks ops.toList []).getD i 0

theorem mk_spec {i j : Nat} {o : Oper} (hi : ops[i]? = some o) (hlt : ∀ e ∈ o.after, Region.binds .any e = true → e.on < i) (h : (mk ops i).testBit j = true) :
    ∃ e ∈ o.after, Region.binds .any e = true ∧ (e.on = j ∨ (mk ops e.on).testBit j = true) := by
  obtain ⟨acc', h1, h2, h3⟩ := masks_at ops.toList [] i o (by simpa using hi)
  simp only [List.length_nil, Nat.zero_add] at h1 h2 h3
  unfold mk at h
  rw [h2] at h
  obtain ⟨e, he, hb, h4⟩ := maskOf_spec h
  refine ⟨e, he, hb, h4.imp id fun h5 => ?_⟩
  unfold mk
  rw [← h3 _ (hlt e he hb)]; exact h5

/-- What is listed is closed downwards. -/
def Closed (ops : Array Oper) (S : Array Bool) : Prop :=
  ∀ j oj, ops[j]? = some oj → S.getD j false = true → ∀ e ∈ oj.after, Region.binds .any e = true → S.getD e.on false = true

structure Ok (ops : Array Oper) : Prop where
  sel : ∀ (i : Nat) (o : Oper), ops[i]? = some o → ∀ cs b, o.op ≠ .select cs b
  lt : ∀ (i : Nat) (o : Oper), ops[i]? = some o → ∀ e ∈ o.after, Region.binds .any e = true → e.on < i
  tmps : ∀ (i : Nat) (o : Oper), ops[i]? = some o → ∀ (j : Nat) (oj : Oper) (d : Tmp), ops[j]? = some oj → oj.dst = some d → j ≠ i → d ∈ names ops o →
    (j < i ∧ (mk ops i).testBit j = true) ∨ (i < j ∧ (mk ops j).testBit i = true)

theorem ok_of (h1 : okB ops = true) : Ok ops := by
  unfold okB at h1
  have g : ∀ (i : Nat) (o : Oper), ops[i]? = some o → noSelect o = true ∧ (∀ e ∈ o.after, Region.binds .any e = true → e.on < i) ∧
      ∀ (j : Nat) (oj : Oper) (d : Tmp), ops[j]? = some oj → oj.dst = some d → j ≠ i → d ∈ names ops o → (j < i ∧ (mk ops i).testBit j = true) ∨ (i < j ∧ (mk ops j).testBit i = true) := by
    intro i o hi
    have hlt : i < ops.size := (Array.getElem?_eq_some_iff.1 hi).1
    have := List.all_eq_true.1 h1 i (List.mem_range.2 hlt)
    rw [hi] at this
    simp only [Bool.and_eq_true] at this
    obtain ⟨⟨a, b⟩, c⟩ := this
    refine ⟨a, fun e he hb => ?_, fun j oj d hj hd hne hm => ?_⟩
    · have := Array.all_eq_true_iff_forall_mem.1 b e he
      simp only [Bool.or_eq_true, Bool.not_eq_true', decide_eq_true_eq] at this
      rcases this with h | h
      · rw [hb] at h; cases h
      · exact h
    · have hjl : j < ops.size := (Array.getElem?_eq_some_iff.1 hj).1
      have := List.all_eq_true.1 c j (List.mem_range.2 hjl)
      rw [hj] at this
      simp only [Option.bind_some, hd, Bool.or_eq_true, Bool.and_eq_true, decide_eq_true_eq, Bool.not_eq_true', beq_iff_eq] at this
      rcases this with h | (h | h) | h
      · exact absurd h hne
      · rw [List.contains_iff_mem.2 hm] at h; cases h
      · exact .inl h
      · exact .inr h
  refine ⟨fun i o hi cs b he => ?_, fun i o hi => (g i o hi).2.1, fun i o hi => (g i o hi).2.2⟩
  have := (g i o hi).1
  unfold noSelect at this
  rw [he] at this
  cases this

theorem closed_mask (ok : Ok ops) {S : Array Bool} (hc : Closed ops S) : ∀ (i : Nat) (o : Oper), ops[i]? = some o → (∀ e ∈ o.after, Region.binds .any e = true → S.getD e.on false = true) →
    ∀ j, (mk ops i).testBit j = true → S.getD j false = true := by
  intro i
  induction i using Nat.strongRecOn with
  | _ i ih =>
    intro o hi hall j hj
    obtain ⟨e, he, hb, h⟩ := mk_spec hi (ok.lt i o hi) hj
    have hl := hall e he hb
    rcases h with rfl | h
    · exact hl
    · have hlt := ok.lt i o hi e he hb
      cases ho : ops[e.on]? with
      | none =>
        exfalso
        have hge : ops.size ≤ e.on := by
          rcases Nat.lt_or_ge e.on ops.size with h' | h'
          · rw [Array.getElem?_eq_getElem h'] at ho; cases ho
          · exact h'
        have hil : i < ops.size := (Array.getElem?_eq_some_iff.1 hi).1
        omega
      | some o' => exact ih e.on hlt o' ho (hc e.on o' ho hl) j h

/-- The frame in which just the operations of S (below n, in the text's order) have yielded. -/
def frame (ops : Array Oper) (V : Nat → Value) (S : Nat → Bool) (a : Act) : Nat → Act
  | 0 => a
  | n + 1 => if S n then (frame ops V S a n).put ((ops[n]?).bind (·.dst)) (V n) else frame ops V S a n

theorem frame_at {V : Nat → Value} {S S' : Nat → Bool} {a : Act} (t : Nat) : ∀ n, (∀ j, j < n → (ops[j]?).bind (·.dst) = some t → S j = S' j) →
    (frame ops V S a n).tmps[t]? = (frame ops V S' a n).tmps[t]?
  | 0, _ => rfl
  | n + 1, h => by
    have ih := frame_at (V := V) (a := a) t n (fun j hj => h j (by omega))
    have hsz : ∀ T n, (frame ops V T a n).tmps.size = a.tmps.size := by
      intro T n
      induction n with
      | zero => rfl
      | succ n ihn =>
        simp only [frame]
        split
        · cases (ops[n]?).bind (·.dst) <;> simp [Act.put, ihn]
        · exact ihn
    cases hd : (ops[n]?).bind (·.dst) with
    | none => simp only [frame, hd, Act.put, ite_self]; exact ih
    | some d =>
      by_cases hdt : d = t
      · subst hdt
        have := h n (by omega) hd
        simp only [frame, hd, this, Act.put]
        split
        · simp [Array.getElem?_setIfInBounds_self, hsz]
        · exact ih
      · have g : ∀ T : Nat → Bool, (frame ops V T a (n + 1)).tmps[t]? = (frame ops V T a n).tmps[t]? := by
          intro T
          simp only [frame, hd, Act.put]
          split
          · simp [Array.getElem?_setIfInBounds_ne hdt]
          · rfl
        rw [g, g]; exact ih

theorem frame_defers {V : Nat → Value} {S : Nat → Bool} {a : Act} : ∀ n, (frame ops V S a n).defers = a.defers
  | 0 => rfl
  | n + 1 => by
    simp only [frame]
    split
    · cases (ops[n]?).bind (·.dst) <;> simp [Act.put, frame_defers n]
    · exact frame_defers n

/-- Adding i to S puts i's value, if no later operation of S writes i's slot. -/
theorem frame_add {V : Nat → Value} {S : Nat → Bool} {a : Act} {i : Nat} (hSi : S i = false) : ∀ n, i < n →
    (∀ j, i < j → j < n → S j = true → ∀ d, (ops[i]?).bind (·.dst) = some d → (ops[j]?).bind (·.dst) ≠ some d) →
    frame ops V (fun j => S j || j == i) a n = (frame ops V S a n).put ((ops[i]?).bind (·.dst)) (V i)
  | 0, h, _ => by omega
  | n + 1, h, hne => by
    by_cases hin : i = n
    · subst hin
      have e : ∀ m, m ≤ i → frame ops V (fun j => S j || j == i) a m = frame ops V S a m := by
        intro m
        induction m with
        | zero => intro _; rfl
        | succ m ih =>
          intro hm
          have : (m == i) = false := by simp; omega
          simp only [frame, this, Bool.or_false, ih (by omega)]
      simp only [frame, hSi, Bool.false_or, beq_self_eq_true, if_true, e i (Nat.le_refl _)]
      rfl
    · have ih := frame_add (V := V) (a := a) hSi n (by omega) (fun j h1 h2 => hne j h1 (by omega))
      have hni : (n == i) = false := by simp; omega
      simp only [frame, hni, Bool.or_false, ih]
      split
      · rename_i hSn
        rw [Act.put_comm]
        intro d hd
        exact hne n (by omega) (by omega) hSn d hd
      · rfl

end

section
variable {P : Program} {ops : Array Oper} {Q : Exit → Act → World → Prop} {loud : List Nat}

/-- One operation, in whatever world of the phases that are open to it. -/
def Step (P : Program) (ops : Array Oper) (o : Oper) (a a' : Act) (I I' : World → Prop) : Prop :=
  ∀ w, I w → ∀ K : Act → World → Prop, (∀ w', I' w' → K a' w') → if Region.wanted o (yielded ops a.tmps) = true then Oper.wp P o a w K (fun _ _ _ => False) else K (a.put o.dst undef) w

theorem act_eq {a b : Act} (h1 : a.tmps = b.tmps) (h2 : a.defers = b.defers) : a = b := by
  cases a; cases b; simp_all

theorem getD_put {a : Act} {dst : Option Tmp} {v : Value} : (a.put dst v) = a.put dst (match dst with | some d => (a.put dst v).tmps.getD d undef | none => undef) := by
  cases dst with
  | none => rfl
  | some d =>
    simp only [Act.put]
    rcases Nat.lt_or_ge d a.tmps.size with h | h
    · simp [h]
    · rw [Array.setIfInBounds_eq_of_size_le h, Array.setIfInBounds_eq_of_size_le h]

theorem put_of_eq {a b : Act} {dst : Option Tmp} {u v : Value} (hs : b.tmps.size = a.tmps.size) (h : a.put dst u = a.put dst v) : b.put dst u = b.put dst v := by
  cases dst with
  | none => rfl
  | some d =>
    simp only [Act.put, Act.mk.injEq, and_true] at h ⊢
    rcases Nat.lt_or_ge d a.tmps.size with hd | hd
    · have h1 := congrArg (·[d]?) h
      simp [hd] at h1
      rw [h1]
    · rw [Array.setIfInBounds_eq_of_size_le (by omega), Array.setIfInBounds_eq_of_size_le (by omega)]

/-- The slots that an operation names read alike in two frames: it runs alike. -/
theorem step_move {o : Oper} {a b a' : Act} {v : Value} {I I' : World → Prop} (hsel : ∀ cs b, o.op ≠ .select cs b) (hz : b.tmps.size = a.tmps.size)
    (hl : ∀ t ∈ o.looksAt ops, b.tmps[t]? = a.tmps[t]?) (ha' : a' = a.put o.dst v) (h : Step P ops o a a' I I') {i : Nat} (hi : ops[i]? = some o) {K : Act → World → Prop} {w : World} (hw : I w)
    (hK : ∀ w', I' w' → K (b.put o.dst v) w') : wpOp P ops Q i K b w := by
  have he : execOp b.eval o = execOp a.eval o := execOp_congr o hsel fun x hx => by
    cases x with
    | tmp t =>
      have : t ∈ o.looksAt ops := List.mem_append_left _ (List.mem_filterMap.2 ⟨.tmp t, by simpa using hx, rfl⟩)
      have := hl t this
      simp only [Act.eval, Array.getD_eq_getD_getElem?, this]
    | _ => rfl
  have hwant : Region.wanted o (yielded ops b.tmps) = Region.wanted o (yielded ops a.tmps) := by
    unfold Region.wanted
    cases hg : o.guard with
    | none => rfl
    | some gw =>
      obtain ⟨g, want⟩ := gw
      have hy : yielded ops b.tmps g = yielded ops a.tmps g := by
        unfold yielded
        cases ht : (ops[g]?).bind (·.dst) with
        | none => rfl
        | some t =>
          have := hl t (by simp [Oper.looksAt, hg, ht])
          simp only [Option.bind_some, this]
      simp only [hy]
  have h1 := h w hw (fun c w' => c = a' ∧ I' w') (fun w' hw' => ⟨rfl, hw'⟩)
  unfold wpOp
  rw [hi]
  show if Region.wanted o (yielded ops b.tmps) = true then _ else _
  rw [hwant]
  have put : ∀ u, a.put o.dst u = a' → b.put o.dst u = b.put o.dst v := fun u hu => put_of_eq hz (hu.trans ha')
  split
  · rename_i hwt
    rw [if_pos hwt] at h1
    refine .inl ?_
    unfold Oper.wp at *
    rw [he]
    generalize (execOp a.eval o).run P w = r at *
    cases r with
    | ok n w' =>
      cases n <;> simp only [Oper.upon] at h1 ⊢
      case value u => rw [put u h1.1]; exact hK _ h1.2
      case skip => rw [put _ h1.1]; exact hK _ h1.2
      case defer d =>
        exfalso
        have := congrArg (·.defers) (h1.1.trans ha')
        cases hod : o.dst <;> simp [Act.put, hod] at this
      case enter f args =>
        refine Calls.mono h1 fun e w'' hh => ?_
        cases e with
        | returned u =>
          have hh : a.put o.dst u = a' ∧ I' w'' := hh
          show K (b.put o.dst u) w''
          rw [put u hh.1]; exact hK _ hh.2
        | panicked c => exact hh.elim
        | outgrown => obtain ⟨_, _, hh⟩ := hh; exact hh.elim
      case row row args =>
        refine Rows.mono h1 fun u w'' hh => ?_
        rw [put u hh.1]; exact hK _ hh.2
    | halt x w' =>
      cases x <;> simp only [Oper.upon] at h1 ⊢
  · rename_i hwt
    rw [if_neg hwt] at h1
    rw [put _ h1.1]; exact hK _ h1.2

/-- How many of the loud operations below n have the property. -/
def cnt (loud : List Nat) (S : Nat → Bool) : Nat → Nat
  | 0 => 0
  | n + 1 => cnt loud S n + if loud.contains n && S n then 1 else 0

theorem cnt_le {S S' : Nat → Bool} : ∀ n, (∀ j, j < n → S j = true → S' j = true) → cnt loud S n ≤ cnt loud S' n
  | 0, _ => Nat.le_refl _
  | n + 1, h => by
    have := cnt_le n (fun j hj => h j (by omega))
    have h2 := h n (by omega)
    simp only [cnt]
    cases hS : S n with
    | false => simp; omega
    | true => rw [h2 hS]; omega

theorem cnt_eq {S S' : Nat → Bool} (n : Nat) (h : ∀ j, j < n → S j = S' j) : cnt loud S n = cnt loud S' n :=
  Nat.le_antisymm (cnt_le n fun j hj hs => by rw [← h j hj]; exact hs) (cnt_le n fun j hj hs => by rw [h j hj]; exact hs)

theorem cnt_add {S : Nat → Bool} {i : Nat} (hSi : S i = false) : ∀ n, i < n → cnt loud (fun j => S j || j == i) n = if loud.contains i then cnt loud S n + 1 else cnt loud S n
  | 0, h => by omega
  | n + 1, h => by
    by_cases hin : i = n
    · subst hin
      have := cnt_eq (loud := loud) (S := fun j => S j || j == i) (S' := S) i (fun j hj => by
        have : (j == i) = false := by simp; omega
        simp [this])
      simp only [cnt, this, hSi, Bool.false_or, beq_self_eq_true, Bool.and_true, Bool.and_false]
      split <;> simp
    · have := cnt_add hSi n (by omega)
      have hni : (n == i) = false := by simp; omega
      simp only [cnt, hni, Bool.or_false, this]
      split <;> omega

/-- The text's order: a chain of frames; of each operation what it does in every world of the phases open to it. lo: how many loud operations are before it; hi: how many are not behind it. -/
def lo (ops : Array Oper) (loud : List Nat) (i : Nat) : Nat := cnt loud (fun l => (mk ops i).testBit l) ops.size
def hi (ops : Array Oper) (loud : List Nat) (i : Nat) : Nat := cnt loud (fun l => !(mk ops l).testBit i && !(l == i)) ops.size

def Walk (P : Program) (ops : Array Oper) (loud : List Nat) (I : Nat → World → Prop) (E : Act → Prop) : Nat → List Oper → Act → Prop
  | _, [], a => E a
  | i, o :: r, a => ∃ a', (∀ k, lo ops loud i ≤ k → k ≤ hi ops loud i → Step P ops o a a' (I k) (I (if loud.contains i then k + 1 else k))) ∧ (∃ v, a' = a.put o.dst v) ∧ Walk P ops loud I E (i + 1) r a'

theorem walk_values {I : Nat → World → Prop} {E : Act → Prop} {a₀ : Act} (n : Nat) (hn : n = ops.size) : ∀ (r : List Oper) (i : Nat) (V : Nat → Value), (∀ j, r[j]? = ops[i + j]?) → i + r.length = n →
    Walk P ops loud I E i r (frame ops V (fun _ => true) a₀ i) →
    ∃ V' : Nat → Value, (∀ j, j < i → V' j = V j) ∧ (∀ j o, i ≤ j → ops[j]? = some o → ∀ k, lo ops loud j ≤ k → k ≤ hi ops loud j →
      Step P ops o (frame ops V' (fun _ => true) a₀ j) (frame ops V' (fun _ => true) a₀ (j + 1)) (I k) (I (if loud.contains j then k + 1 else k))) ∧ E (frame ops V' (fun _ => true) a₀ n)
  | [], i, V, _, hlen, h => by
    have : i = n := by simpa using hlen
    subst this
    refine ⟨V, fun _ _ => rfl, fun j o hj ho => ?_, h⟩
    have := (Array.getElem?_eq_some_iff.1 ho).1
    omega
  | o :: r, i, V, hr, hlen, h => by
    obtain ⟨a', hstep, ⟨v, hv⟩, hrest⟩ := h
    have ho : ops[i]? = some o := by have := hr 0; simpa using this.symm
    let V1 : Nat → Value := fun j => if j = i then v else V j
    have hV1 : ∀ j, j < i → V1 j = V j := fun j hj => by simp [V1]; omega
    have fr : ∀ m, m ≤ i → frame ops V1 (fun _ => true) a₀ m = frame ops V (fun _ => true) a₀ m := by
      intro m
      induction m with
      | zero => intro _; rfl
      | succ m ih => intro hm; simp only [frame, if_true, ih (by omega), hV1 m (by omega)]
    have fr1 : frame ops V1 (fun _ => true) a₀ (i + 1) = a' := by
      rw [hv]
      simp only [frame, if_true, fr i (Nat.le_refl _), ho, Option.bind_some]
      simp [V1]
    rw [← fr1] at hrest
    obtain ⟨V', h1, h2, h3⟩ := walk_values n hn r (i + 1) V1 (fun j => by have := hr (j + 1); simp only [List.getElem?_cons_succ] at this; rw [this]; congr 1; omega) (by simp at hlen; omega) hrest
    have fr' : ∀ m, m ≤ i + 1 → frame ops V' (fun _ => true) a₀ m = frame ops V1 (fun _ => true) a₀ m := by
      intro m
      induction m with
      | zero => intro _; rfl
      | succ m ih => intro hm; simp only [frame, if_true, ih (by omega), h1 m (by omega)]
    refine ⟨V', fun j hj => (h1 j (by omega)).trans (hV1 j hj), fun j o' hj ho' k hk1 hk2 => ?_, h3⟩
    by_cases hji : j = i
    · subst hji
      have : o' = o := Option.some.inj (ho'.symm.trans ho)
      subst this
      rw [fr' _ (by omega), fr' _ (by omega), fr1, fr _ (Nat.le_refl _)]
      exact hstep k hk1 hk2
    · exact h2 j o' (by omega) ho' k hk1 hk2

theorem frame_size {V : Nat → Value} {S : Nat → Bool} {a : Act} : ∀ n, (frame ops V S a n).tmps.size = a.tmps.size
  | 0 => rfl
  | n + 1 => by
    simp only [frame]
    split
    · cases (ops[n]?).bind (·.dst) <;> simp [Act.put, frame_size n]
    · exact frame_size n

theorem frame_lt {V : Nat → Value} {a : Act} (i : Nat) : ∀ n, frame ops V (fun j => decide (j < i)) a n = frame ops V (fun _ => true) a (min i n)
  | 0 => by simp [frame]
  | n + 1 => by
    simp only [frame, decide_eq_true_eq]
    split
    · rw [frame_lt i n, show min i n = n by omega, show min i (n + 1) = n + 1 by omega]
      simp [frame]
    · rw [frame_lt i n, show min i n = min i (n + 1) by omega]

theorem frame_same {V : Nat → Value} {S S' : Nat → Bool} {a : Act} : ∀ n, (∀ j, j < n → S j = S' j) → frame ops V S a n = frame ops V S' a n
  | 0, _ => rfl
  | n + 1, h => by simp only [frame, frame_same n (fun j hj => h j (by omega)), h n (by omega)]

/-- How many are not listed yet. -/
def open_ (S : Array Bool) : Nat → Nat
  | 0 => 0
  | n + 1 => open_ S n + if S.getD n false then 0 else 1

theorem open_set {S : Array Bool} {i : Nat} (hi : i < S.size) (hSi : S.getD i false = false) : ∀ n, i < n → open_ S n = open_ (S.setIfInBounds i true) n + 1
  | 0, h => by omega
  | n + 1, h => by
    by_cases hin : i = n
    · subst hin
      have e : ∀ m, m ≤ i → open_ (S.setIfInBounds i true) m = open_ S m := by
        intro m
        induction m with
        | zero => intro _; rfl
        | succ m ih => intro hm; simp only [open_, ih (by omega), getD_set_ne false (show i ≠ m by omega)]
      simp only [open_, hSi, e i (Nat.le_refl _)]
      simp [hi]
    · have := open_set hi hSi n (by omega)
      simp only [open_, getD_set_ne false hin, this]
      omega

theorem open_zero {S : Array Bool} : ∀ n, open_ S n = 0 → ∀ j, j < n → S.getD j false = true
  | 0, _, j, hj => by omega
  | n + 1, h, j, hj => by
    simp only [open_] at h
    cases hS : S.getD n false with
    | false => rw [hS] at h; simp at h
    | true =>
      by_cases hjn : j = n
      · subst hjn; exact hS
      · exact open_zero n (by omega) j (by omega)

theorem open_pos {S : Array Bool} : ∀ n, 0 < open_ S n → ∃ j, j < n ∧ S.getD j false = false ∧ ∀ k, k < j → S.getD k false = true
  | 0, h => by simp [open_] at h
  | n + 1, h => by
    by_cases h0 : 0 < open_ S n
    · obtain ⟨j, hj, h1, h2⟩ := open_pos n h0
      exact ⟨j, by omega, h1, h2⟩
    · have h0' : open_ S n = 0 := by omega
      cases hS : S.getD n false with
      | false => exact ⟨n, by omega, hS, open_zero n h0'⟩
      | true => simp only [open_, hS, if_true] at h; omega

theorem main_ {I : Nat → World → Prop} {a₀ : Act} {V : Nat → Value} (ok : Ok ops)
    (hstep : ∀ j o, ops[j]? = some o → ∀ k, lo ops loud j ≤ k → k ≤ hi ops loud j →
      Step P ops o (frame ops V (fun _ => true) a₀ j) (frame ops V (fun _ => true) a₀ (j + 1)) (I k) (I (if loud.contains j then k + 1 else k)))
    (hend : ∀ w, I (cnt loud (fun _ => true) ops.size) w → Q .normal (frame ops V (fun _ => true) a₀ ops.size) w) :
    ∀ (fuel : Nat) (S : Array Bool) (w : World), S.size = ops.size → Closed ops S → open_ S ops.size = fuel → I (cnt loud (fun j => S.getD j false) ops.size) w →
      wpAny P .any ops Q fuel S (frame ops V (fun j => S.getD j false) a₀ ops.size) w := by
  intro fuel
  induction fuel with
  | zero =>
    intro S w hsz hc ho hI
    have hall := open_zero _ ho
    refine ⟨?_, ?_⟩
    · cases hr : Region.ready .any ops S with
      | nil => rfl
      | cons j r =>
        exfalso
        have hj : j ∈ Region.ready .any ops S := by rw [hr]; exact List.mem_cons_self
        obtain ⟨h1, o, h2, _⟩ := mem_ready.1 hj
        have hlt := (Array.getElem?_eq_some_iff.1 h2).1
        have := hall j hlt
        have h3 : S.getD j false = false := by
          simp [show j < S.size by omega] at h1 ⊢; exact h1
        rw [h3] at this; cases this
    · rw [frame_same (S' := fun _ => true) _ hall]
      exact hend w (by rw [← cnt_eq _ hall]; exact hI)
  | succ f ih =>
    intro S w hsz hc ho hI
    refine ⟨fun hr => ?_, fun i hi => ?_⟩
    · exfalso
      obtain ⟨j, hj, h1, h2⟩ := open_pos (S := S) ops.size (by omega)
      have : j ∈ Region.ready .any ops S := by
        rw [mem_ready]
        have ho' : ops[j]? = some ops[j] := Array.getElem?_eq_getElem hj
        refine ⟨?_, _, ho', fun e he hb => h2 _ (ok.lt j _ ho' e he hb)⟩
        simp [show j < S.size by omega] at h1 ⊢; exact h1
      rw [hr] at this; cases this
    · obtain ⟨h1, o, h2, h3⟩ := mem_ready.1 hi
      have hlt := (Array.getElem?_eq_some_iff.1 h2).1
      have hSi : S.getD i false = false := by
        simp [show i < S.size by omega] at h1 ⊢; exact h1
      have pre := closed_mask ok hc i o h2 h3
      have post : ∀ j oj, ops[j]? = some oj → (mk ops j).testBit i = true → S.getD j false = false := fun j oj hj hb => by
        cases hS : S.getD j false with
        | false => rfl
        | true =>
          have := closed_mask ok hc j oj hj (hc j oj hj hS) i hb
          rw [hSi] at this; cases this
      have hput : frame ops V (fun _ => true) a₀ (i + 1) = (frame ops V (fun _ => true) a₀ i).put o.dst (V i) := by
        simp only [frame, if_true, h2, Option.bind_some]
      refine step_move (a := frame ops V (fun _ => true) a₀ i) (v := V i) (ok.sel i o h2) (by rw [frame_size, frame_size]) (fun t ht => ?_) hput
        (hstep i o h2 (cnt loud (fun j => S.getD j false) ops.size) (cnt_le _ fun j hj hb => pre j hb) (cnt_le _ fun j hj hb => ?_)) h2 hI (fun w' hI' => ?_)
      · have := frame_lt (ops := ops) (V := V) (a := a₀) i ops.size
        rw [show min i ops.size = i by omega] at this
        rw [← this]
        refine frame_at t _ fun j hj hd => ?_
        by_cases hji : j = i
        · subst hji; simp [hSi]
        · have hoj : ops[j]? = some ops[j] := Array.getElem?_eq_getElem hj
          rw [hoj] at hd
          rcases ok.tmps i o h2 j _ t hoj hd hji (List.mem_append_left _ ht) with ⟨hlt', hb⟩ | ⟨hlt', hb⟩
          · rw [pre j hb]; simp [hlt']
          · rw [post j _ hoj hb]; simp; omega
      · have hoj : ops[j]? = some ops[j] := Array.getElem?_eq_getElem hj
        simp only [Bool.and_eq_true, Bool.not_eq_true', beq_eq_false_iff_ne]
        refine ⟨?_, fun e => by rw [e, hSi] at hb; cases hb⟩
        cases hbit : (mk ops j).testBit i with
        | false => rfl
        | true => rw [post j _ hoj hbit] at hb; cases hb
      · have hSe : ∀ j, j < ops.size → (fun j => (S.setIfInBounds i true).getD j false) j = (fun j => S.getD j false || j == i) j := fun j hj => by
          by_cases hji : i = j
          · subst hji; simp [show i < S.size by omega]
          · have : (j == i) = false := by simp; omega
            simp only [getD_set_ne false hji, this, Bool.or_false]
        have hadd := frame_add (ops := ops) (V := V) (S := fun j => S.getD j false) (a := a₀) (i := i) hSi ops.size hlt (fun j hij hj hSj d hd hdj => by
          have hoj : ops[j]? = some ops[j] := Array.getElem?_eq_getElem hj
          rw [hoj] at hdj
          rw [h2] at hd
          rcases ok.tmps i o h2 j _ d hoj hdj (by omega) (List.mem_append_right _ (by simpa using hd)) with ⟨hlt', _⟩ | ⟨_, hb⟩
          · omega
          · rw [post j _ hoj hb] at hSj; cases hSj)
        rw [h2] at hadd
        simp only [Option.bind_some] at hadd
        rw [← hadd, ← frame_same _ hSe]
        refine ih _ w' (by simp [hsz]) ?_ ?_ ?_
        · intro j oj hj hl e he hb
          by_cases hij : i = j
          · subst hij
            have : oj = o := Option.some.inj (hj.symm.trans h2)
            subst this
            exact getD_set_true (h3 e he hb)
          · rw [getD_set_ne false hij] at hl
            exact getD_set_true (hc j oj hj hl e he hb)
        · have := open_set (S := S) (by omega) hSi ops.size hlt
          omega
        · rw [cnt_eq _ hSe, cnt_add hSi _ hlt]
          exact hI'

theorem open_all (n : Nat) : ∀ m, m ≤ n → open_ (Array.replicate n false) m = m
  | 0, _ => rfl
  | m + 1, h => by simp [open_, open_all n m (by omega), show m < n by omega]

theorem wp_region_dr {id : Nat} {a : Act} {w : World} (I : Nat → World → Prop) (loud : List Nat) (hm : P.follows .mixedOrders = true) (ok : okB ops = true) (h0 : I 0 w.drew)
    (m : Nat) (hcnt : cnt loud (fun _ => true) ops.size = m)
    (h : Walk P ops loud I (fun a' => ∀ w', I m w' → Q .normal a' w') 0 ops.toList a) : (Code.region id ops true).wp P Q a w := by
  subst hcnt
  refine wp_region_any hm ?_
  have hok := ok_of ok
  obtain ⟨V, _, hst, hE⟩ := walk_values (P := P) (loud := loud) (a₀ := a) ops.size rfl ops.toList 0 (fun _ => undef) (fun j => by simp) (by simp) h
  have hfalse : ∀ j, (Array.replicate ops.size false).getD j false = false := fun j => by
    rcases Nat.lt_or_ge j ops.size with h' | h' <;> simp [h']
  have key := main_ (Q := Q) (a₀ := a) hok (fun j o hj => hst j o (Nat.zero_le _) hj) hE ops.size (Array.replicate ops.size false) w.drew (by simp)
    (fun j oj hj hl => by rw [hfalse] at hl; cases hl) (open_all _ _ (Nat.le_refl _)) (by
      rw [funext hfalse]
      have : ∀ n, cnt loud (fun _ => false) n = 0 := by
        intro n
        induction n with
        | zero => rfl
        | succ n ih => simp [cnt, ih]
      rw [this]; exact h0)
  have hfr : ∀ n, frame ops V (fun _ => false) a n = a := by
    intro n
    induction n with
    | zero => rfl
    | succ n ih => simp [frame, ih]
  rw [funext hfalse, hfr] at key
  exact key

/-- The same with a table (lo, hi, loud) for each operation. -/
def WalkT (P : Program) (ops : Array Oper) (I : Nat → World → Prop) (E : Act → Prop) : List Oper → List (Nat × Nat × Bool) → Act → Prop
  | o :: r, x :: t, a => ∃ a', (∀ k, x.1 ≤ k → k ≤ x.2.1 → Step P ops o a a' (I k) (I (cond x.2.2 (k + 1) k))) ∧ (∃ v, a' = a.put o.dst v) ∧ WalkT P ops I E r t a'
  | [], [], a => E a
  | _, _, _ => False

def tabB (ops : Array Oper) (loud : List Nat) (tab : List (Nat × Nat × Bool)) : Bool :=
  decide (tab.length = ops.size) && (List.range ops.size).all fun i => tab.getD i (0, 0, false) == (lo ops loud i, hi ops loud i, loud.contains i)

theorem walk_of_tab {I : Nat → World → Prop} {E : Act → Prop} {tab : List (Nat × Nat × Bool)} (ht : ∀ i, i < ops.size → tab.getD i (0, 0, false) = (lo ops loud i, hi ops loud i, loud.contains i)) :
    ∀ (r : List Oper) (t : List (Nat × Nat × Bool)) (i : Nat) (a : Act), i + r.length = ops.size → (∀ j, t.getD j (0, 0, false) = tab.getD (i + j) (0, 0, false)) → WalkT P ops I E r t a → Walk P ops loud I E i r a
  | [], [], _, _, _, _, h => h
  | o :: r, x :: t, i, a, hl, hx, h => by
    obtain ⟨a', h1, h2, h3⟩ := h
    have e : x = (lo ops loud i, hi ops loud i, loud.contains i) := by
      have := hx 0
      simp only [List.getD_cons_zero, Nat.add_zero] at this
      rw [this]; exact ht i (by simp at hl; omega)
    subst e
    refine ⟨a', fun k hk1 hk2 => ?_, h2, walk_of_tab ht r t (i + 1) a' (by simp at hl; omega) (fun j => by
      have := hx (j + 1)
      simp only [List.getD_cons_succ] at this
      rw [this]; congr 1; omega) h3⟩
    have := h1 k hk1 hk2
    rw [Bool.cond_eq_ite] at this
    exact this
  | [], _ :: _, _, _, _, _, h => h.elim
  | _ :: _, [], _, _, _, _, h => h.elim

theorem region {l : List Oper} {id : Nat} {a : Act} {w : World} (I : Nat → World → Prop) (loud : List Nat) (tab : List (Nat × Nat × Bool)) (m : Nat)
    (hm : P.follows .mixedOrders = true) (ok : okB l.toArray = true) (htab : tabB l.toArray loud tab = true) (hcnt : cnt loud (fun _ => true) l.toArray.size = m) (h0 : I 0 w.drew)
    (h : WalkT P l.toArray I (fun a' => ∀ w', I m w' → Q .normal a' w') l tab a) : (Code.region id l.toArray true).wp P Q a w := by
  refine wp_region_dr I loud hm ok h0 m hcnt ?_
  unfold tabB at htab
  simp only [Bool.and_eq_true, decide_eq_true_eq] at htab
  exact walk_of_tab (tab := tab) (fun i hi => by simpa using List.all_eq_true.1 htab.2 i (List.mem_range.2 hi)) l tab 0 a (by simp) (fun j => by simp) h

theorem cons {ops : Array Oper} {I : Nat → World → Prop} {E : Act → Prop} {o : Oper} {r : List Oper} {l h : Nat} {b : Bool} {t : List (Nat × Nat × Bool)} {a : Act} (a' : Act)
    (h1 : ∀ k, l ≤ k → k ≤ h → ∀ w, I k w → ∀ K : Act → World → Prop, (∀ w', I (cond b (k + 1) k) w' → K a' w') → if Region.wanted o (yielded ops a.tmps) = true then Oper.wp P o a w K (fun _ _ _ => False) else K (a.put o.dst undef) w)
    (h2 : ∃ v, a' = a.put o.dst v) (h3 : WalkT P ops I E r t a') : WalkT P ops I E (o :: r) ((l, h, b) :: t) a :=
  ⟨a', h1, h2, h3⟩

end

/-- An operation that runs. -/
theorem run_ {c : Bool} {A B : Prop} (h : c = true) (hA : A) : if c = true then A else B := by rw [if_pos h]; exact hA

/-- The worlds of the phases, one by one. -/
def Ws : List World → Nat → World → Prop
  | [], _, _ => False
  | x :: _, 0, w => w = x
  | _ :: r, k + 1, w => Ws r k w

/-- Two phases. -/
def Ph (A B : World → Prop) : Nat → World → Prop
  | 0 => A
  | _ + 1 => B

end Dr
end Go.Proofs.YtdlifdmnfbjokaaDoor
