/- Contracts and plain words, part 3: texts Dr, T6, T7. -/
import Derived.Orders
import Derived.Tactics
import Derived.RowKit3
import Derived.Test.YtaebebpldkciiaaGreatDoorQG02
namespace Go.Proofs.YtaebebpldkciiaaGreatDoor
section
open Go
namespace Dr
def maskOf (acc : List Nat) (o : Oper) : Nat :=
 o.after.foldl (fun s e => if Region.binds .any e then s ||| 2 ^ e.on ||| acc.getD e.on 0 else s) 0
def masks : List Oper → List Nat → List Nat
 | [], acc => acc
 | o :: r, acc => masks r (acc ++ [maskOf acc o])
def names (ops : Array Oper) (o : Oper) : List Tmp := o.looksAt ops ++ o.dst.toList
def noSelect (o : Oper) : Bool := match o.op with | .select .. => false | _ => true
def okB (ops : Array Oper) : Bool :=
 let ms := masks ops.toList []
 (List.range ops.size).all (fun i => match ops[i]? with
  | none => true
  | some o => noSelect o && o.after.all (fun e => !Region.binds .any e || decide (e.on < i)) &&
   (List.range ops.size).all fun j => j == i || match (ops[j]?).bind (·.dst) with
    | none => true
    | some d => !(names ops o).contains d || (decide (j < i) && (ms.getD i 0).testBit j) || (decide (i < j) && (ms.getD j 0).testBit i))
theorem binds_false {s : Nat} {l : List Edge} {acc : List Nat} {j : Nat} :
  (l.foldl (fun s e => if Region.binds .any e then s ||| 2 ^ e.on ||| acc.getD e.on 0 else s) s).testBit j = true →
  s.testBit j = true ∨ ∃ e ∈ l, Region.binds .any e = true ∧ (e.on = j ∨ (acc.getD e.on 0).testBit j = true) := by
 induction l generalizing s with
 | nil => intro h; exact .inl h
 | cons e l ih =>
  intro h
  rw [List.foldl_cons] at h
  rcases ih h with h1 | ⟨e', he', h2⟩
  ·by_cases hb : Region.binds .any e = true
   ·rw [if_pos hb, Nat.testBit_or, Nat.testBit_or, Nat.testBit_two_pow] at h1
    simp only [Bool.or_eq_true, decide_eq_true_eq] at h1
    rcases h1 with (h1 | h1) | h1
    ·exact .inl h1
    ·exact .inr ⟨e, List.mem_cons_self, hb, .inl h1⟩
    ·exact .inr ⟨e, List.mem_cons_self, hb, .inr h1⟩
   ·rw [if_neg hb] at h1; exact .inl h1
  ·exact .inr ⟨e', List.mem_cons_of_mem _ he', h2⟩
theorem maskOf_spec {acc : List Nat} {o : Oper} {j : Nat} (h : (maskOf acc o).testBit j = true) :
  ∃ e ∈ o.after, Region.binds .any e = true ∧ (e.on = j ∨ (acc.getD e.on 0).testBit j = true) := by
 unfold maskOf at h
 rw [← Array.foldl_toList] at h
 rcases binds_false h with h1 | ⟨e, he, h2⟩
 ·simp at h1
 ·exact ⟨e, by simpa using he, h2⟩
theorem masks_old : ∀ (l : List Oper) (acc : List Nat) (i : Nat), i < acc.length → (masks l acc).getD i 0 = acc.getD i 0
 | [], acc, i, _ => rfl
 | o :: r, acc, i, h => by
  simp only [masks]
  rw [masks_old r _ i (by simp; omega)]
  simp [List.getElem?_append_left h]
theorem masks_at : ∀ (l : List Oper) (acc : List Nat) (i : Nat) (o : Oper), l[i]? = some o →
  ∃ acc', acc'.length = acc.length + i ∧ (masks l acc).getD (acc.length + i) 0 = maskOf acc' o ∧ ∀ k, k < acc.length + i → acc'.getD k 0 = (masks l acc).getD k 0
 | [], acc, i, o, h => by simp at h
 | o' :: r, acc, 0, o, h => by
  have : o' = o := by simpa using h
  subst this
  refine ⟨acc, by simp, ?_, fun k hk => ?_⟩
  ·simp only [masks, Nat.add_zero]
   rw [masks_old r _ _ (by simp)]
   simp
  ·simp only [masks]
   rw [masks_old r _ _ (by simp; omega)]
   simp [List.getElem?_append_left (show k < acc.length by omega)]
 | o' :: r, acc, i + 1, o, h => by
  obtain ⟨acc', h1, h2, h3⟩ := masks_at r (acc ++ [maskOf acc o']) i o (by simpa using h)
  have e : (acc ++ [maskOf acc o']).length + i = acc.length + (i + 1) := by simp; omega
  rw [e] at h1 h2 h3
  exact ⟨acc', h1, by simpa only [masks] using h2, fun k hk => by simpa only [masks] using h3 k hk⟩
section
variable {P : Program} {ops : Array Oper} {Q : Exit → Act → World → Prop} {loud : List Nat}
def mk (ops : Array Oper) (i : Nat) : Nat := (masks ops.toList []).getD i 0
theorem mk_spec {i j : Nat} {o : Oper} (hi : ops[i]? = some o) (hlt : ∀ e ∈ o.after, Region.binds .any e = true → e.on < i) (h : (mk ops i).testBit j = true) :
  ∃ e ∈ o.after, Region.binds .any e = true ∧ (e.on = j ∨ (mk ops e.on).testBit j = true) := by
 obtain ⟨acc', h1, h2, h3⟩ := masks_at ops.toList [] i o (by simpa using hi)
 simp only [List.length_nil, Nat.zero_add] at h1 h2 h3
 unfold mk at h
 rw [h2] at h
 obtain ⟨e, he, hb, h4⟩ := maskOf_spec h
 refine ⟨e, he, hb, h4.imp id fun h5 => ?_⟩
 unfold mk
 rw [← h3 _ (hlt e he hb)]; exact h5
def Closed (ops : Array Oper) (S : Array Bool) : Prop :=
 ∀ j oj, ops[j]? = some oj → S.getD j false = true → ∀ e ∈ oj.after, Region.binds .any e = true → S.getD e.on false = true
structure Ok (ops : Array Oper) : Prop where
 sel : ∀ (i : Nat) (o : Oper), ops[i]? = some o → ∀ cs b, o.op ≠ .select cs b
 lt : ∀ (i : Nat) (o : Oper), ops[i]? = some o → ∀ e ∈ o.after, Region.binds .any e = true → e.on < i
 tmps : ∀ (i : Nat) (o : Oper), ops[i]? = some o → ∀ (j : Nat) (oj : Oper) (d : Tmp), ops[j]? = some oj → oj.dst = some d → j ≠ i → d ∈ names ops o →
  (j < i ∧ (mk ops i).testBit j = true) ∨ (i < j ∧ (mk ops j).testBit i = true)
theorem ok_of (h1 : okB ops = true) : Ok ops := by
 unfold okB at h1
 have g : ∀ (i : Nat) (o : Oper), ops[i]? = some o → noSelect o = true ∧ (∀ e ∈ o.after, Region.binds .any e = true → e.on < i) ∧
   ∀ (j : Nat) (oj : Oper) (d : Tmp), ops[j]? = some oj → oj.dst = some d → j ≠ i → d ∈ names ops o → (j < i ∧ (mk ops i).testBit j = true) ∨ (i < j ∧ (mk ops j).testBit i = true) := by
  intro i o hi
  have hlt : i < ops.size := (Array.getElem?_eq_some_iff.1 hi).1
  have := List.all_eq_true.1 h1 i (List.mem_range.2 hlt)
  rw [hi] at this
  simp only [Bool.and_eq_true] at this
  obtain ⟨⟨a, b⟩, c⟩ := this
  refine ⟨a, fun e he hb => ?_, fun j oj d hj hd hne hm => ?_⟩
  ·have := Array.all_eq_true_iff_forall_mem.1 b e he
   simp only [Bool.or_eq_true, Bool.not_eq_true', decide_eq_true_eq] at this
   rcases this with h | h
   ·rw [hb] at h; cases h
   ·exact h
  ·have hjl : j < ops.size := (Array.getElem?_eq_some_iff.1 hj).1
   have := List.all_eq_true.1 c j (List.mem_range.2 hjl)
   rw [hj] at this
   simp only [Option.bind_some, hd, Bool.or_eq_true, Bool.and_eq_true, decide_eq_true_eq, Bool.not_eq_true', beq_iff_eq] at this
   rcases this with h | (h | h) | h
   ·exact absurd h hne
   ·rw [List.contains_iff_mem.2 hm] at h; cases h
   ·exact .inl h
   ·exact .inr h
 refine ⟨fun i o hi cs b he => ?_, fun i o hi => (g i o hi).2.1, fun i o hi => (g i o hi).2.2⟩
 have := (g i o hi).1
 unfold noSelect at this
 rw [he] at this
 cases this
theorem closed_mask (ok : Ok ops) {S : Array Bool} (hc : Closed ops S) : ∀ (i : Nat) (o : Oper), ops[i]? = some o → (∀ e ∈ o.after, Region.binds .any e = true → S.getD e.on false = true) →
  ∀ j, (mk ops i).testBit j = true → S.getD j false = true := by
 intro i
 induction i using Nat.strongRecOn with
 | _ i ih =>
  intro o hi hall j hj
  obtain ⟨e, he, hb, h⟩ := mk_spec hi (ok.lt i o hi) hj
  have hl := hall e he hb
  rcases h with rfl | h
  ·exact hl
  ·have hlt := ok.lt i o hi e he hb
   cases ho : ops[e.on]? with
   | none =>
    exfalso
    have hge : ops.size ≤ e.on := by
     rcases Nat.lt_or_ge e.on ops.size with h' | h'
     ·rw [Array.getElem?_eq_getElem h'] at ho; cases ho
     ·exact h'
    have hil : i < ops.size := (Array.getElem?_eq_some_iff.1 hi).1
    omega
   | some o' => exact ih e.on hlt o' ho (hc e.on o' ho hl) j h
def frame (ops : Array Oper) (V : Nat → Value) (S : Nat → Bool) (a : Act) : Nat → Act
 | 0 => a
 | n + 1 => if S n then (frame ops V S a n).put ((ops[n]?).bind (·.dst)) (V n) else frame ops V S a n
theorem frame_at {V : Nat → Value} {S S' : Nat → Bool} {a : Act} (t : Nat) : ∀ n, (∀ j, j < n → (ops[j]?).bind (·.dst) = some t → S j = S' j) →
  (frame ops V S a n).tmps[t]? = (frame ops V S' a n).tmps[t]?
 | 0, _ => rfl
 | n + 1, h => by
  have ih := frame_at (V := V) (a := a) t n (fun j hj => h j (by omega))
  have hsz : ∀ T n, (frame ops V T a n).tmps.size = a.tmps.size := by
   intro T n
   induction n with
   | zero => rfl
   | succ n ihn =>
    simp only [frame]
    split
    ·cases (ops[n]?).bind (·.dst) <;> simp [Act.put, ihn]
    ·exact ihn
  cases hd : (ops[n]?).bind (·.dst) with
  | none => simp only [frame, hd, Act.put, ite_self]; exact ih
  | some d =>
   by_cases hdt : d = t
   ·subst hdt
    have := h n (by omega) hd
    simp only [frame, hd, this, Act.put]
    split
    ·simp [Array.getElem?_setIfInBounds_self, hsz]
    ·exact ih
   ·have g : ∀ T : Nat → Bool, (frame ops V T a (n + 1)).tmps[t]? = (frame ops V T a n).tmps[t]? := by
     intro T
     simp only [frame, hd, Act.put]
     split
     ·simp [Array.getElem?_setIfInBounds_ne hdt]
     ·rfl
    rw [g, g]; exact ih
theorem frame_add {V : Nat → Value} {S : Nat → Bool} {a : Act} {i : Nat} (hSi : S i = false) : ∀ n, i < n →
  (∀ j, i < j → j < n → S j = true → ∀ d, (ops[i]?).bind (·.dst) = some d → (ops[j]?).bind (·.dst) ≠ some d) →
  frame ops V (fun j => S j || j == i) a n = (frame ops V S a n).put ((ops[i]?).bind (·.dst)) (V i)
 | 0, h, _ => by omega
 | n + 1, h, hne => by
  by_cases hin : i = n
  ·subst hin
   have e : ∀ m, m ≤ i → frame ops V (fun j => S j || j == i) a m = frame ops V S a m := by
    intro m
    induction m with
    | zero => intro _; rfl
    | succ m ih =>
     intro hm
     have : (m == i) = false := by simp; omega
     simp only [frame, this, Bool.or_false, ih (by omega)]
   simp only [frame, hSi, Bool.false_or, beq_self_eq_true, if_true, e i (Nat.le_refl _)]
   rfl
  ·have ih := frame_add (V := V) (a := a) hSi n (by omega) (fun j h1 h2 => hne j h1 (by omega))
   have hni : (n == i) = false := by simp; omega
   simp only [frame, hni, Bool.or_false, ih]
   split
   ·rename_i hSn
    rw [Act.put_comm]
    intro d hd
    exact hne n (by omega) (by omega) hSn d hd
   ·rfl
end
section
variable {P : Program} {ops : Array Oper} {Q : Exit → Act → World → Prop} {loud : List Nat}
def Step (P : Program) (ops : Array Oper) (o : Oper) (a a' : Act) (I I' : World → Prop) : Prop :=
 ∀ w, I w → ∀ K : Act → World → Prop, (∀ w', I' w' → K a' w') → if Region.wanted o (yielded ops a.tmps) = true then Oper.wp P o a w K (fun _ _ _ => False) else K (a.put o.dst undef) w
theorem put_of_eq {a b : Act} {dst : Option Tmp} {u v : Value} (hs : b.tmps.size = a.tmps.size) (h : a.put dst u = a.put dst v) : b.put dst u = b.put dst v := by
 cases dst with
 | none => rfl
 | some d =>
  simp only [Act.put, Act.mk.injEq, and_true] at h ⊢
  rcases Nat.lt_or_ge d a.tmps.size with hd | hd
  ·have h1 := congrArg (·[d]?) h
   simp [hd] at h1
   rw [h1]
  ·rw [Array.setIfInBounds_eq_of_size_le (by omega), Array.setIfInBounds_eq_of_size_le (by omega)]
theorem step_move {o : Oper} {a b a' : Act} {v : Value} {I I' : World → Prop} (hsel : ∀ cs b, o.op ≠ .select cs b) (hz : b.tmps.size = a.tmps.size)
  (hl : ∀ t ∈ o.looksAt ops, b.tmps[t]? = a.tmps[t]?) (ha' : a' = a.put o.dst v) (h : Step P ops o a a' I I') {i : Nat} (hi : ops[i]? = some o) {K : Act → World → Prop} {w : World} (hw : I w)
  (hK : ∀ w', I' w' → K (b.put o.dst v) w') : wpOp P ops Q i K b w := by
 have he : execOp b.eval o = execOp a.eval o := execOp_congr o hsel fun x hx => by
  cases x with
  | tmp t =>
   have : t ∈ o.looksAt ops := List.mem_append_left _ (List.mem_filterMap.2 ⟨.tmp t, by simpa using hx, rfl⟩)
   have := hl t this
   simp only [Act.eval, Array.getD_eq_getD_getElem?, this]
  | _ => rfl
 have hwant : Region.wanted o (yielded ops b.tmps) = Region.wanted o (yielded ops a.tmps) := by
  unfold Region.wanted
  cases hg : o.guard with
  | none => rfl
  | some gw =>
   obtain ⟨g, want⟩ := gw
   have hy : yielded ops b.tmps g = yielded ops a.tmps g := by
    unfold yielded
    cases ht : (ops[g]?).bind (·.dst) with
    | none => rfl
    | some t =>
     have := hl t (by simp [Oper.looksAt, hg, ht])
     simp only [Option.bind_some, this]
   simp only [hy]
 have h1 := h w hw (fun c w' => c = a' ∧ I' w') (fun w' hw' => ⟨rfl, hw'⟩)
 unfold wpOp
 rw [hi]
 show if Region.wanted o (yielded ops b.tmps) = true then _ else _
 rw [hwant]
 have put : ∀ u, a.put o.dst u = a' → b.put o.dst u = b.put o.dst v := fun u hu => put_of_eq hz (hu.trans ha')
 split
 ·rename_i hwt
  rw [if_pos hwt] at h1
  refine .inl ?_
  unfold Oper.wp at *
  rw [he]
  generalize (execOp a.eval o).run P w = r at *
  cases r with
  | ok n w' =>
   cases n <;> simp only [Oper.upon] at h1 ⊢
   case value u => rw [put u h1.1]; exact hK _ h1.2
   case skip => rw [put _ h1.1]; exact hK _ h1.2
   case defer d =>
    exfalso
    have := congrArg (·.defers) (h1.1.trans ha')
    cases hod : o.dst <;> simp [Act.put, hod] at this
   case enter f args =>
    refine Calls.mono h1 fun e w'' hh => ?_
    cases e with
    | returned u =>
     have hh : a.put o.dst u = a' ∧ I' w'' := hh
     show K (b.put o.dst u) w''
     rw [put u hh.1]; exact hK _ hh.2
    | panicked c => exact hh.elim
    | outgrown => obtain ⟨_, _, hh⟩ := hh; exact hh.elim
   case row row args =>
    refine Rows.mono h1 fun u w'' hh => ?_
    rw [put u hh.1]; exact hK _ hh.2
  | halt x w' =>
   cases x <;> simp only [Oper.upon] at h1 ⊢
 ·rename_i hwt
  rw [if_neg hwt] at h1
  rw [put _ h1.1]; exact hK _ h1.2
def cnt (loud : List Nat) (S : Nat → Bool) : Nat → Nat
 | 0 => 0
 | n + 1 => cnt loud S n + if loud.contains n && S n then 1 else 0
theorem cnt_le {S S' : Nat → Bool} : ∀ n, (∀ j, j < n → S j = true → S' j = true) → cnt loud S n ≤ cnt loud S' n
 | 0, _ => Nat.le_refl _
 | n + 1, h => by
  have := cnt_le n (fun j hj => h j (by omega))
  have h2 := h n (by omega)
  simp only [cnt]
  cases hS : S n with
  | false => simp; omega
  | true => rw [h2 hS]; omega
theorem cnt_eq {S S' : Nat → Bool} (n : Nat) (h : ∀ j, j < n → S j = S' j) : cnt loud S n = cnt loud S' n :=
 Nat.le_antisymm (cnt_le n fun j hj hs => by rw [← h j hj]; exact hs) (cnt_le n fun j hj hs => by rw [h j hj]; exact hs)
theorem cnt_add {S : Nat → Bool} {i : Nat} (hSi : S i = false) : ∀ n, i < n → cnt loud (fun j => S j || j == i) n = if loud.contains i then cnt loud S n + 1 else cnt loud S n
 | 0, h => by omega
 | n + 1, h => by
  by_cases hin : i = n
  ·subst hin
   have := cnt_eq (loud := loud) (S := fun j => S j || j == i) (S' := S) i (fun j hj => by
    have : (j == i) = false := by simp; omega
    simp [this])
   simp only [cnt, this, hSi, Bool.false_or, beq_self_eq_true, Bool.and_true, Bool.and_false]
   split <;> simp
  ·have := cnt_add hSi n (by omega)
   have hni : (n == i) = false := by simp; omega
   simp only [cnt, hni, Bool.or_false, this]
   split <;> omega
def lo (ops : Array Oper) (loud : List Nat) (i : Nat) : Nat := cnt loud (fun l => (mk ops i).testBit l) ops.size
def hi (ops : Array Oper) (loud : List Nat) (i : Nat) : Nat := cnt loud (fun l => !(mk ops l).testBit i && !(l == i)) ops.size
def Walk (P : Program) (ops : Array Oper) (loud : List Nat) (I : Nat → World → Prop) (E : Act → Prop) : Nat → List Oper → Act → Prop
 | _, [], a => E a
 | i, o :: r, a => ∃ a', (∀ k, lo ops loud i ≤ k → k ≤ hi ops loud i → Step P ops o a a' (I k) (I (if loud.contains i then k + 1 else k))) ∧ (∃ v, a' = a.put o.dst v) ∧ Walk P ops loud I E (i + 1) r a'
theorem walk_values {I : Nat → World → Prop} {E : Act → Prop} {a₀ : Act} (n : Nat) (hn : n = ops.size) : ∀ (r : List Oper) (i : Nat) (V : Nat → Value), (∀ j, r[j]? = ops[i + j]?) → i + r.length = n →
  Walk P ops loud I E i r (frame ops V (fun _ => true) a₀ i) →
  ∃ V' : Nat → Value, (∀ j, j < i → V' j = V j) ∧ (∀ j o, i ≤ j → ops[j]? = some o → ∀ k, lo ops loud j ≤ k → k ≤ hi ops loud j →
   Step P ops o (frame ops V' (fun _ => true) a₀ j) (frame ops V' (fun _ => true) a₀ (j + 1)) (I k) (I (if loud.contains j then k + 1 else k))) ∧ E (frame ops V' (fun _ => true) a₀ n)
 | [], i, V, _, hlen, h => by
  have : i = n := by simpa using hlen
  subst this
  refine ⟨V, fun _ _ => rfl, fun j o hj ho => ?_, h⟩
  have := (Array.getElem?_eq_some_iff.1 ho).1
  omega
 | o :: r, i, V, hr, hlen, h => by
  obtain ⟨a', hstep, ⟨v, hv⟩, hrest⟩ := h
  have ho : ops[i]? = some o := by have := hr 0; simpa using this.symm
  let V1 : Nat → Value := fun j => if j = i then v else V j
  have hV1 : ∀ j, j < i → V1 j = V j := fun j hj => by simp [V1]; omega
  have fr : ∀ m, m ≤ i → frame ops V1 (fun _ => true) a₀ m = frame ops V (fun _ => true) a₀ m := by
   intro m
   induction m with
   | zero => intro _; rfl
   | succ m ih => intro hm; simp only [frame, if_true, ih (by omega), hV1 m (by omega)]
  have fr1 : frame ops V1 (fun _ => true) a₀ (i + 1) = a' := by
   rw [hv]
   simp only [frame, if_true, fr i (Nat.le_refl _), ho, Option.bind_some]
   simp [V1]
  rw [← fr1] at hrest
  obtain ⟨V', h1, h2, h3⟩ := walk_values n hn r (i + 1) V1 (fun j => by have := hr (j + 1); simp only [List.getElem?_cons_succ] at this; rw [this]; congr 1; omega) (by simp at hlen; omega) hrest
  have fr' : ∀ m, m ≤ i + 1 → frame ops V' (fun _ => true) a₀ m = frame ops V1 (fun _ => true) a₀ m := by
   intro m
   induction m with
   | zero => intro _; rfl
   | succ m ih => intro hm; simp only [frame, if_true, ih (by omega), h1 m (by omega)]
  refine ⟨V', fun j hj => (h1 j (by omega)).trans (hV1 j hj), fun j o' hj ho' k hk1 hk2 => ?_, h3⟩
  by_cases hji : j = i
  ·subst hji
   have : o' = o := Option.some.inj (ho'.symm.trans ho)
   subst this
   rw [fr' _ (by omega), fr' _ (by omega), fr1, fr _ (Nat.le_refl _)]
   exact hstep k hk1 hk2
  ·exact h2 j o' (by omega) ho' k hk1 hk2
theorem frame_size {V : Nat → Value} {S : Nat → Bool} {a : Act} : ∀ n, (frame ops V S a n).tmps.size = a.tmps.size
 | 0 => rfl
 | n + 1 => by
  simp only [frame]
  split
  ·cases (ops[n]?).bind (·.dst) <;> simp [Act.put, frame_size n]
  ·exact frame_size n
theorem frame_lt {V : Nat → Value} {a : Act} (i : Nat) : ∀ n, frame ops V (fun j => decide (j < i)) a n = frame ops V (fun _ => true) a (min i n)
 | 0 => by simp [frame]
 | n + 1 => by
  simp only [frame, decide_eq_true_eq]
  split
  ·rw [frame_lt i n, show min i n = n by omega, show min i (n + 1) = n + 1 by omega]
   simp [frame]
  ·rw [frame_lt i n, show min i n = min i (n + 1) by omega]
theorem frame_same {V : Nat → Value} {S S' : Nat → Bool} {a : Act} : ∀ n, (∀ j, j < n → S j = S' j) → frame ops V S a n = frame ops V S' a n
 | 0, _ => rfl
 | n + 1, h => by simp only [frame, frame_same n (fun j hj => h j (by omega)), h n (by omega)]
def open_ (S : Array Bool) : Nat → Nat
 | 0 => 0
 | n + 1 => open_ S n + if S.getD n false then 0 else 1
theorem open_set {S : Array Bool} {i : Nat} (hi : i < S.size) (hSi : S.getD i false = false) : ∀ n, i < n → open_ S n = open_ (S.setIfInBounds i true) n + 1
 | 0, h => by omega
 | n + 1, h => by
  by_cases hin : i = n
  ·subst hin
   have e : ∀ m, m ≤ i → open_ (S.setIfInBounds i true) m = open_ S m := by
    intro m
    induction m with
    | zero => intro _; rfl
    | succ m ih => intro hm; simp only [open_, ih (by omega), getD_set_ne false (show i ≠ m by omega)]
   simp only [open_, hSi, e i (Nat.le_refl _)]
   simp [hi]
  ·have := open_set hi hSi n (by omega)
   simp only [open_, getD_set_ne false hin, this]
   omega
theorem open_zero {S : Array Bool} : ∀ n, open_ S n = 0 → ∀ j, j < n → S.getD j false = true
 | 0, _, j, hj => by omega
 | n + 1, h, j, hj => by
  simp only [open_] at h
  cases hS : S.getD n false with
  | false => rw [hS] at h; simp at h
  | true =>
   by_cases hjn : j = n
   ·subst hjn; exact hS
   ·exact open_zero n (by omega) j (by omega)
theorem open_pos {S : Array Bool} : ∀ n, 0 < open_ S n → ∃ j, j < n ∧ S.getD j false = false ∧ ∀ k, k < j → S.getD k false = true
 | 0, h => by simp [open_] at h
 | n + 1, h => by
  by_cases h0 : 0 < open_ S n
  ·obtain ⟨j, hj, h1, h2⟩ := open_pos n h0
   exact ⟨j, by omega, h1, h2⟩
  ·have h0' : open_ S n = 0 := by omega
   cases hS : S.getD n false with
   | false => exact ⟨n, by omega, hS, open_zero n h0'⟩
   | true => simp only [open_, hS, if_true] at h; omega
theorem main_ {I : Nat → World → Prop} {a₀ : Act} {V : Nat → Value} (ok : Ok ops)
  (hstep : ∀ j o, ops[j]? = some o → ∀ k, lo ops loud j ≤ k → k ≤ hi ops loud j →
   Step P ops o (frame ops V (fun _ => true) a₀ j) (frame ops V (fun _ => true) a₀ (j + 1)) (I k) (I (if loud.contains j then k + 1 else k)))
  (hend : ∀ w, I (cnt loud (fun _ => true) ops.size) w → Q .normal (frame ops V (fun _ => true) a₀ ops.size) w) :
  ∀ (fuel : Nat) (S : Array Bool) (w : World), S.size = ops.size → Closed ops S → open_ S ops.size = fuel → I (cnt loud (fun j => S.getD j false) ops.size) w →
   wpAny P .any ops Q fuel S (frame ops V (fun j => S.getD j false) a₀ ops.size) w := by
 intro fuel
 induction fuel with
 | zero =>
  intro S w hsz hc ho hI
  have hall := open_zero _ ho
  refine ⟨?_, ?_⟩
  ·cases hr : Region.ready .any ops S with
   | nil => rfl
   | cons j r =>
    exfalso
    have hj : j ∈ Region.ready .any ops S := by rw [hr]; exact List.mem_cons_self
    obtain ⟨h1, o, h2, _⟩ := mem_ready.1 hj
    have hlt := (Array.getElem?_eq_some_iff.1 h2).1
    have := hall j hlt
    have h3 : S.getD j false = false := by
     simp [show j < S.size by omega] at h1 ⊢; exact h1
    rw [h3] at this; cases this
  ·rw [frame_same (S' := fun _ => true) _ hall]
   exact hend w (by rw [← cnt_eq _ hall]; exact hI)
 | succ f ih =>
  intro S w hsz hc ho hI
  refine ⟨fun hr => ?_, fun i hi => ?_⟩
  ·exfalso
   obtain ⟨j, hj, h1, h2⟩ := open_pos (S := S) ops.size (by omega)
   have : j ∈ Region.ready .any ops S := by
    rw [mem_ready]
    have ho' : ops[j]? = some ops[j] := Array.getElem?_eq_getElem hj
    refine ⟨?_, _, ho', fun e he hb => h2 _ (ok.lt j _ ho' e he hb)⟩
    simp [show j < S.size by omega] at h1 ⊢; exact h1
   rw [hr] at this; cases this
  ·obtain ⟨h1, o, h2, h3⟩ := mem_ready.1 hi
   have hlt := (Array.getElem?_eq_some_iff.1 h2).1
   have hSi : S.getD i false = false := by
    simp [show i < S.size by omega] at h1 ⊢; exact h1
   have pre := closed_mask ok hc i o h2 h3
   have post : ∀ j oj, ops[j]? = some oj → (mk ops j).testBit i = true → S.getD j false = false := fun j oj hj hb => by
    cases hS : S.getD j false with
    | false => rfl
    | true =>
     have := closed_mask ok hc j oj hj (hc j oj hj hS) i hb
     rw [hSi] at this; cases this
   have hput : frame ops V (fun _ => true) a₀ (i + 1) = (frame ops V (fun _ => true) a₀ i).put o.dst (V i) := by
    simp only [frame, if_true, h2, Option.bind_some]
   refine step_move (a := frame ops V (fun _ => true) a₀ i) (v := V i) (ok.sel i o h2) (by rw [frame_size, frame_size]) (fun t ht => ?_) hput
    (hstep i o h2 (cnt loud (fun j => S.getD j false) ops.size) (cnt_le _ fun j hj hb => pre j hb) (cnt_le _ fun j hj hb => ?_)) h2 hI (fun w' hI' => ?_)
   ·have := frame_lt (ops := ops) (V := V) (a := a₀) i ops.size
    rw [show min i ops.size = i by omega] at this
    rw [← this]
    refine frame_at t _ fun j hj hd => ?_
    by_cases hji : j = i
    ·subst hji; simp [hSi]
    ·have hoj : ops[j]? = some ops[j] := Array.getElem?_eq_getElem hj
     rw [hoj] at hd
     rcases ok.tmps i o h2 j _ t hoj hd hji (List.mem_append_left _ ht) with ⟨hlt', hb⟩ | ⟨hlt', hb⟩
     ·rw [pre j hb]; simp [hlt']
     ·rw [post j _ hoj hb]; simp; omega
   ·have hoj : ops[j]? = some ops[j] := Array.getElem?_eq_getElem hj
    simp only [Bool.and_eq_true, Bool.not_eq_true', beq_eq_false_iff_ne]
    refine ⟨?_, fun e => by rw [e, hSi] at hb; cases hb⟩
    cases hbit : (mk ops j).testBit i with
    | false => rfl
    | true => rw [post j _ hoj hbit] at hb; cases hb
   ·have hSe : ∀ j, j < ops.size → (fun j => (S.setIfInBounds i true).getD j false) j = (fun j => S.getD j false || j == i) j := fun j hj => by
     by_cases hji : i = j
     ·subst hji; simp [show i < S.size by omega]
     ·have : (j == i) = false := by simp; omega
      simp only [getD_set_ne false hji, this, Bool.or_false]
    have hadd := frame_add (ops := ops) (V := V) (S := fun j => S.getD j false) (a := a₀) (i := i) hSi ops.size hlt (fun j hij hj hSj d hd hdj => by
     have hoj : ops[j]? = some ops[j] := Array.getElem?_eq_getElem hj
     rw [hoj] at hdj
     rw [h2] at hd
     rcases ok.tmps i o h2 j _ d hoj hdj (by omega) (List.mem_append_right _ (by simpa using hd)) with ⟨hlt', _⟩ | ⟨_, hb⟩
     ·omega
     ·rw [post j _ hoj hb] at hSj; cases hSj)
    rw [h2] at hadd
    simp only [Option.bind_some] at hadd
    rw [← hadd, ← frame_same _ hSe]
    refine ih _ w' (by simp [hsz]) ?_ ?_ ?_
    ·intro j oj hj hl e he hb
     by_cases hij : i = j
     ·subst hij
      have : oj = o := Option.some.inj (hj.symm.trans h2)
      subst this
      exact getD_set_true (h3 e he hb)
     ·rw [getD_set_ne false hij] at hl
      exact getD_set_true (hc j oj hj hl e he hb)
    ·have := open_set (S := S) (by omega) hSi ops.size hlt
     omega
    ·rw [cnt_eq _ hSe, cnt_add hSi _ hlt]
     exact hI'
theorem open_all (n : Nat) : ∀ m, m ≤ n → open_ (Array.replicate n false) m = m
 | 0, _ => rfl
 | m + 1, h => by simp [open_, open_all n m (by omega), show m < n by omega]
theorem wp_region_dr {id : Nat} {a : Act} {w : World} (I : Nat → World → Prop) (loud : List Nat) (hm : P.follows .mixedOrders = true) (ok : okB ops = true) (h0 : I 0 w.drew)
  (m : Nat) (hcnt : cnt loud (fun _ => true) ops.size = m)
  (h : Walk P ops loud I (fun a' => ∀ w', I m w' → Q .normal a' w') 0 ops.toList a) : (Code.region id ops true).wp P Q a w := by
 subst hcnt
 refine wp_region_any hm ?_
 have hok := ok_of ok
 obtain ⟨V, _, hst, hE⟩ := walk_values (P := P) (loud := loud) (a₀ := a) ops.size rfl ops.toList 0 (fun _ => undef) (fun j => by simp) (by simp) h
 have hfalse : ∀ j, (Array.replicate ops.size false).getD j false = false := fun j => by
  rcases Nat.lt_or_ge j ops.size with h' | h' <;> simp [h']
 have key := main_ (Q := Q) (a₀ := a) hok (fun j o hj => hst j o (Nat.zero_le _) hj) hE ops.size (Array.replicate ops.size false) w.drew (by simp)
  (fun j oj hj hl => by rw [hfalse] at hl; cases hl) (open_all _ _ (Nat.le_refl _)) (by
   rw [funext hfalse]
   have : ∀ n, cnt loud (fun _ => false) n = 0 := by
    intro n
    induction n with
    | zero => rfl
    | succ n ih => simp [cnt, ih]
   rw [this]; exact h0)
 have hfr : ∀ n, frame ops V (fun _ => false) a n = a := by
  intro n
  induction n with
  | zero => rfl
  | succ n ih => simp [frame, ih]
 rw [funext hfalse, hfr] at key
 exact key
def WalkT (P : Program) (ops : Array Oper) (I : Nat → World → Prop) (E : Act → Prop) : List Oper → List (Nat × Nat × Bool) → Act → Prop
 | o :: r, x :: t, a => ∃ a', (∀ k, x.1 ≤ k → k ≤ x.2.1 → Step P ops o a a' (I k) (I (cond x.2.2 (k + 1) k))) ∧ (∃ v, a' = a.put o.dst v) ∧ WalkT P ops I E r t a'
 | [], [], a => E a
 | _, _, _ => False
def tabB (ops : Array Oper) (loud : List Nat) (tab : List (Nat × Nat × Bool)) : Bool :=
 decide (tab.length = ops.size) && (List.range ops.size).all fun i => tab.getD i (0, 0, false) == (lo ops loud i, hi ops loud i, loud.contains i)
theorem walk_of_tab {I : Nat → World → Prop} {E : Act → Prop} {tab : List (Nat × Nat × Bool)} (ht : ∀ i, i < ops.size → tab.getD i (0, 0, false) = (lo ops loud i, hi ops loud i, loud.contains i)) :
  ∀ (r : List Oper) (t : List (Nat × Nat × Bool)) (i : Nat) (a : Act), i + r.length = ops.size → (∀ j, t.getD j (0, 0, false) = tab.getD (i + j) (0, 0, false)) → WalkT P ops I E r t a → Walk P ops loud I E i r a
 | [], [], _, _, _, _, h => h
 | o :: r, x :: t, i, a, hl, hx, h => by
  obtain ⟨a', h1, h2, h3⟩ := h
  have e : x = (lo ops loud i, hi ops loud i, loud.contains i) := by
   have := hx 0
   simp only [List.getD_cons_zero, Nat.add_zero] at this
   rw [this]; exact ht i (by simp at hl; omega)
  subst e
  refine ⟨a', fun k hk1 hk2 => ?_, h2, walk_of_tab ht r t (i + 1) a' (by simp at hl; omega) (fun j => by
   have := hx (j + 1)
   simp only [List.getD_cons_succ] at this
   rw [this]; congr 1; omega) h3⟩
  have := h1 k hk1 hk2
  rw [Bool.cond_eq_ite] at this
  exact this
 | [], _ :: _, _, _, _, _, h => h.elim
 | _ :: _, [], _, _, _, _, h => h.elim
theorem region {l : List Oper} {id : Nat} {a : Act} {w : World} (I : Nat → World → Prop) (loud : List Nat) (tab : List (Nat × Nat × Bool)) (m : Nat)
  (hm : P.follows .mixedOrders = true) (ok : okB l.toArray = true) (htab : tabB l.toArray loud tab = true) (hcnt : cnt loud (fun _ => true) l.toArray.size = m) (h0 : I 0 w.drew)
  (h : WalkT P l.toArray I (fun a' => ∀ w', I m w' → Q .normal a' w') l tab a) : (Code.region id l.toArray true).wp P Q a w := by
 refine wp_region_dr I loud hm ok h0 m hcnt ?_
 unfold tabB at htab
 simp only [Bool.and_eq_true, decide_eq_true_eq] at htab
 exact walk_of_tab (tab := tab) (fun i hi => by simpa using List.all_eq_true.1 htab.2 i (List.mem_range.2 hi)) l tab 0 a (by simp) (fun j => by simp) h
theorem cons {ops : Array Oper} {I : Nat → World → Prop} {E : Act → Prop} {o : Oper} {r : List Oper} {l h : Nat} {b : Bool} {t : List (Nat × Nat × Bool)} {a : Act} (a' : Act)
  (h1 : ∀ k, l ≤ k → k ≤ h → ∀ w, I k w → ∀ K : Act → World → Prop, (∀ w', I (cond b (k + 1) k) w' → K a' w') → if Region.wanted o (yielded ops a.tmps) = true then Oper.wp P o a w K (fun _ _ _ => False) else K (a.put o.dst undef) w)
  (h2 : ∃ v, a' = a.put o.dst v) (h3 : WalkT P ops I E r t a') : WalkT P ops I E (o :: r) ((l, h, b) :: t) a :=
 ⟨a', h1, h2, h3⟩
end
theorem run_ {c : Bool} {A B : Prop} (h : c = true) (hA : A) : if c = true then A else B := by rw [if_pos h]; exact hA
end Dr
end
section
open Go.RowKit
theorem two_nodes (a b : Nd) (W : World) : NdAt W.heap.size a ((W.alloc (.cells #[.int .i64 a.t, .int .i64 a.x, .int .i64 a.y, .int .i64 a.h, .int .i64 a.r, .int .i64 a.b] 52)).alloc (.cells #[.int .i64 b.t, .int .i64 b.x, .int .i64 b.y, .int .i64 b.h, .int .i64 b.r, .int .i64 b.b] 52)).drew ∧
  NdAt (W.heap.size + 1) b ((W.alloc (.cells #[.int .i64 a.t, .int .i64 a.x, .int .i64 a.y, .int .i64 a.h, .int .i64 a.r, .int .i64 a.b] 52)).alloc (.cells #[.int .i64 b.t, .int .i64 b.x, .int .i64 b.y, .int .i64 b.h, .int .i64 b.r, .int .i64 b.b] 52)).drew ∧
  Below W.heap.size W ((W.alloc (.cells #[.int .i64 a.t, .int .i64 a.x, .int .i64 a.y, .int .i64 a.h, .int .i64 a.r, .int .i64 a.b] 52)).alloc (.cells #[.int .i64 b.t, .int .i64 b.x, .int .i64 b.y, .int .i64 b.h, .int .i64 b.r, .int .i64 b.b] 52)).drew ∧
  W.heap.size + 1 < ((W.alloc (.cells #[.int .i64 a.t, .int .i64 a.x, .int .i64 a.y, .int .i64 a.h, .int .i64 a.r, .int .i64 a.b] 52)).alloc (.cells #[.int .i64 b.t, .int .i64 b.x, .int .i64 b.y, .int .i64 b.h, .int .i64 b.r, .int .i64 b.b] 52)).drew.heap.size := by
 have h1 := NdAt.new a W
 generalize hW1 : W.alloc (.cells #[.int .i64 a.t, .int .i64 a.x, .int .i64 a.y, .int .i64 a.h, .int .i64 a.r, .int .i64 a.b] 52) = W1 at *
 have z1 : W1.heap.size = W.heap.size + 1 := by rw [← hW1, size_al]
 have b1 : Below W.heap.size W W1 := by rw [← hW1]; exact (Below.refl _ W).alloc (Nat.le_refl _) _
 have h2 := NdAt.new b W1
 generalize hW2 : W1.alloc (.cells #[.int .i64 b.t, .int .i64 b.x, .int .i64 b.y, .int .i64 b.h, .int .i64 b.r, .int .i64 b.b] 52) = W2 at *
 have z2 : W2.heap.size = W1.heap.size + 1 := by rw [← hW2, size_al]
 have b2 : Below W1.heap.size W1 W2 := by rw [← hW2]; exact (Below.refl _ W1).alloc (Nat.le_refl _) _
 rw [z1] at h2
 refine ⟨h1.below (b2.drew) (by omega), h2, (b1.trans (b2.mono (by omega))).drew, ?_⟩
 show W.heap.size + 1 < W2.heap.size
 omega
theorem up_bd {a b m : Int} (hb : 0 < b) (h1 : -m ≤ a) (h2 : a ≤ m) (hm : 0 ≤ m) : -m ≤ upD a b ∧ upD a b ≤ m := by
 unfold upD
 have := div_bd (a := -a) hb (show -m ≤ -a by omega) (by omega) hm
 omega
def MiF (b7 b8 : Nat) (o q : Nd) (w W : World) : Prop := AtF w W ∧ NdAt b7 o W ∧ NdAt b8 q W ∧ b7 < W.heap.size ∧ b8 < W.heap.size
theorem MiF.on {b7 b8 : Nat} {o q : Nd} {w W W2 : World} (h : MiF b7 b8 o q w W) (hb : Below W.heap.size W W2) : MiF b7 b8 o q w W2 := by
 have := hb.size
 exact ⟨h.1.on hb, h.2.1.below hb h.2.2.2.1, h.2.2.1.below hb h.2.2.2.2, by have := h.2.2.2.1; omega, by have := h.2.2.2.2; omega⟩
set_option maxRecDepth 100000 in
set_option maxHeartbeats 8000000 in
theorem at_mid (A : Option Addr) (n c : Nat) (l : Tu) (t : Int) (w : World) (hA : TuA A n l w) (hok : TuOk l) (h0 : fstT l ≤ t) (h1 : t ≤ lstT l) (hit : (l[lowT l t]!).t ≠ t) :
  Calls Tryz.prog 49 #[.slice A n c, .int .i64 t] w fun e w' => e = .returned (ndA (atN l t)) ∧ Below w.heap.size w w' := by
 have hl := hA.1
 have hlt := lowT_lt hok h1
 have hn := hok.n1
 have hpos := lowT_pos hok h0 hit h1
 have hsp := lowT_spec hok t
 have HR : Hid (atN l t = mixN l[lowT l t - 1]! l[lowT l t]! t) := Lib.hid (by unfold atN; rw [if_neg hit])
 rw [HR.out]
 have HS := Lib.hid (fun (W : World) (hb : AtF w W) => (bsf_at (c := c) (hA.below hb.2.1) hok h1 h0).mono fun e W2 h => (show e = .returned (.tuple #[.int .i64 (lowT l t : Nat), .bool false]) ∧ AtF w W2 from ⟨by rw [h.1, decide_eq_false hit], hb.on h.2⟩))
 obtain ⟨bb, off, rfl, hbb, hr⟩ := hA.2 (by omega)
 have HC : Hid (w.rangeAt bb (off + lowT l t * 6) (ndV l[lowT l t]!)) := Lib.hid (hr (lowT l t) (by omega))
 have HC2 : Hid (w.rangeAt bb (off + (lowT l t - 1) * 6) (ndV l[lowT l t - 1]!)) := Lib.hid (hr (lowT l t - 1) (by omega))
 have ho := hok.nd _ hlt
 have ho2 := hok.nd (lowT l t - 1) (by omega)
 have ht1 := hsp.1 (lowT l t - 1) (by omega)
 have ht2 := hsp.2 (lowT l t) (Nat.le_refl _) hlt
 have ht3 : t < (l[lowT l t]!).t := by omega
 have l1 : ((lowT l t : Nat) : Int) < (n : Int) := by omega
 have hwp : IntKind.i64.wrap ((lowT l t : Int) - 1) = ((lowT l t - 1 : Nat) : Int) := by rw [IntWalk.i64_in _ (by omega)]; omega
 have k0 : (0 : Int) ≤ ((lowT l t - 1 : Nat) : Int) := by omega
 have k1 : ((lowT l t - 1 : Nat) : Int) < (n : Int) := by omega
 clear hr HR hA hok h0 h1 hit hsp ht2 hpos
 generalize lowT l t - 1 = p1 at *
 generalize lowT l t = p at *
 obtain ⟨q, hq⟩ : ∃ q, l[p]! = q := ⟨_, rfl⟩
 obtain ⟨o, ho'⟩ : ∃ o, l[p1]! = o := ⟨_, rfl⟩
 rw [hq] at HC ho ht3 ⊢
 rw [ho'] at HC2 ho2 ht1 ⊢
 clear hq ho' hl hlt
 have l0 : (0 : Int) ≤ (p : Int) := by omega
 obtain ⟨ot, ox, oy, oh, or_, ob⟩ := o
 obtain ⟨qt, qx, qy, qh, qr, qb⟩ := q
 unfold mixN
 simp only at ht1 ht3 ⊢
 go_enter Tryz.func49, Tryz.ntmps49
 go_upto_region 4 with (go_at_call 77; go_loud (refine (HS.out _ (by exact AtF.start w)).mono ?_; rintro e w1 ⟨rfl, hF⟩))
 have HF := Lib.hid hF
 obtain ⟨z0, y1, _, _⟩ := hF
 have d0 : w1.cell? ⟨bb, off + p * 6, none⟩ = some (.int .i64 qt) := (y1.cell (p := ⟨bb, off + p * 6, none⟩) hbb).trans (HC.out 0 _ rfl)
 have d1 : w1.cell? ⟨bb, off + p * 6 + 1, none⟩ = some (.int .i64 qx) := (y1.cell (p := ⟨bb, off + p * 6 + 1, none⟩) hbb).trans (HC.out 1 _ rfl)
 have d2 : w1.cell? ⟨bb, off + p * 6 + 2, none⟩ = some (.int .i64 qy) := (y1.cell (p := ⟨bb, off + p * 6 + 2, none⟩) hbb).trans (HC.out 2 _ rfl)
 have d3 : w1.cell? ⟨bb, off + p * 6 + 3, none⟩ = some (.int .i64 qh) := (y1.cell (p := ⟨bb, off + p * 6 + 3, none⟩) hbb).trans (HC.out 3 _ rfl)
 have d4 : w1.cell? ⟨bb, off + p * 6 + 4, none⟩ = some (.int .i64 qr) := (y1.cell (p := ⟨bb, off + p * 6 + 4, none⟩) hbb).trans (HC.out 4 _ rfl)
 have d5 : w1.cell? ⟨bb, off + p * 6 + 5, none⟩ = some (.int .i64 qb) := (y1.cell (p := ⟨bb, off + p * 6 + 5, none⟩) hbb).trans (HC.out 5 _ rfl)
 have c0 : w1.cell? ⟨bb, off + p1 * 6, none⟩ = some (.int .i64 ot) := (y1.cell (p := ⟨bb, off + p1 * 6, none⟩) hbb).trans (HC2.out 0 _ rfl)
 have c1 : w1.cell? ⟨bb, off + p1 * 6 + 1, none⟩ = some (.int .i64 ox) := (y1.cell (p := ⟨bb, off + p1 * 6 + 1, none⟩) hbb).trans (HC2.out 1 _ rfl)
 have c2 : w1.cell? ⟨bb, off + p1 * 6 + 2, none⟩ = some (.int .i64 oy) := (y1.cell (p := ⟨bb, off + p1 * 6 + 2, none⟩) hbb).trans (HC2.out 2 _ rfl)
 have c3 : w1.cell? ⟨bb, off + p1 * 6 + 3, none⟩ = some (.int .i64 oh) := (y1.cell (p := ⟨bb, off + p1 * 6 + 3, none⟩) hbb).trans (HC2.out 3 _ rfl)
 have c4 : w1.cell? ⟨bb, off + p1 * 6 + 4, none⟩ = some (.int .i64 or_) := (y1.cell (p := ⟨bb, off + p1 * 6 + 4, none⟩) hbb).trans (HC2.out 4 _ rfl)
 have c5 : w1.cell? ⟨bb, off + p1 * 6 + 5, none⟩ = some (.int .i64 ob) := (y1.cell (p := ⟨bb, off + p1 * 6 + 5, none⟩) hbb).trans (HC2.out 5 _ rfl)
 have x1 : bb < w1.heap.size := by omega
 have x2 : (bb != w1.heap.size) = true := by simp; omega
 have x3 : bb < w1.heap.size + 1 := by omega
 have x4 : (bb != w1.heap.size + 1) = true := by simp; omega
 go_cut [7, 8] from 19 to 117 (fun s7 s8 wx => ∃ b7 b8 : Nat, s7 = .pointer (some ⟨b7, 0, none⟩) ∧ s8 = .pointer (some ⟨b8, 0, none⟩) ∧ NdAt b7 ⟨ot, ox, oy, oh, or_, ob⟩ wx ∧ NdAt b8 ⟨qt, qx, qy, qh, qr, qb⟩ wx ∧ Below w1.heap.size w1 wx ∧ b7 < wx.heap.size ∧ b8 < wx.heap.size)
 case first =>
  go_region_with (fail)
  all_goals first | refine ?sameA | refine ?sameB
  ·obtain ⟨u1, u2, u3, u4⟩ := two_nodes ⟨ot, ox, oy, oh, or_, ob⟩ ⟨qt, qx, qy, qh, qr, qb⟩ w1
   go_wp2_with fail
   go_meet
   case rel => exact ⟨_, _, rfl, rfl, u1, u2, u3, by omega, u4⟩
  ·obtain ⟨u1, u2, u3, u4⟩ := two_nodes ⟨qt, qx, qy, qh, qr, qb⟩ ⟨ot, ox, oy, oh, or_, ob⟩ w1
   go_wp2_with fail
   go_meet
   case rel => exact ⟨_, _, rfl, rfl, u2, u1, u3, u4, by omega⟩
 case rest =>
  obtain ⟨b7, b8, rfl, rfl, n7, n8, hbc, z7, z8⟩ := hcut
  have hM : MiF b7 b8 ⟨ot, ox, oy, oh, or_, ob⟩ ⟨qt, qx, qy, qh, qr, qb⟩ w wc := ⟨HF.out.on hbc, n7, n8, z7, z8⟩
  have m1 : -(60000 * 200000) ≤ (qh - oh) * (t - ot) ∧ (qh - oh) * (t - ot) ≤ 60000 * 200000 := mul_bd2 (by have := ho.h0; have := ho.h1; have := ho2.h0; have := ho2.h1; simp only at *; omega) (by have := ho.t1; have := ho2.t0; simp only at *; omega)
  have m2 : -(1000000 * 200000) ≤ (qr - or_) * (t - ot) ∧ (qr - or_) * (t - ot) ≤ 1000000 * 200000 := mul_bd2 (by have := ho.r0; have := ho.r1; have := ho2.r0; have := ho2.r1; simp only at *; omega) (by have := ho.t1; have := ho2.t0; simp only at *; omega)
  have m3 : -(60000 * 200000) ≤ (qb - ob) * (t - ot) ∧ (qb - ob) * (t - ot) ≤ 60000 * 200000 := mul_bd2 (by have := ho.b0; have := ho.b1; have := ho2.b0; have := ho2.b1; simp only at *; omega) (by have := ho.t1; have := ho2.t0; simp only at *; omega)
  have hd : 0 < qt - ot ∧ qt - ot ≤ 200000 := by have := ho.t1; have := ho2.t0; simp only at *; omega
  have hnn : 0 ≤ t - ot ∧ t - ot ≤ qt - ot := by omega
  have v1 := div_bd (a := (qh - oh) * (t - ot)) (b := qt - ot) (m := 12000000000) (by omega) (by omega) (by omega) (by omega)
  have u2 := up_bd (a := (qr - or_) * (t - ot)) (b := qt - ot) (m := 200000000000) (by omega) (by omega) (by omega) (by omega)
  have u3 := up_bd (a := (qb - ob) * (t - ot)) (b := qt - ot) (m := 12000000000) (by omega) (by omega) (by omega) (by omega)
  have HTo := Lib.hid (fun (W : World) (hb : MiF b7 b8 ⟨ot, ox, oy, oh, or_, ob⟩ ⟨qt, qx, qy, qh, qr, qb⟩ w W) => (Toward_any ox oy qx qy (t - ot) (qt - ot) W ⟨ho2.x0, ho2.x1⟩ ⟨ho2.y0, ho2.y1⟩ ⟨ho.x0, ho.x1⟩ ⟨ho.y0, ho.y1⟩ hd hnn).mono fun e W2 h => (show e = .returned (.tuple #[.agg #[.int .i64 (ox + (qx - ox) * (t - ot) / (qt - ot)), .int .i64 (oy + (qy - oy) * (t - ot) / (qt - ot))], .int .i64 0]) ∧ MiF b7 b8 ⟨ot, ox, oy, oh, or_, ob⟩ ⟨qt, qx, qy, qh, qr, qb⟩ w W2 from ⟨h.1, hb.on h.2⟩))
  have HDh := Lib.hid (fun W => DivDown_any ((qh - oh) * (t - ot)) (qt - ot) W (by omega) (by omega) (by omega) (by omega))
  have HUr := Lib.hid (fun W => DivUp_any ((qr - or_) * (t - ot)) (qt - ot) W (by omega) (by omega) (by omega) (by omega))
  have HUb := Lib.hid (fun W => DivUp_any ((qb - ob) * (t - ot)) (qt - ot) W (by omega) (by omega) (by omega) (by omega))
  have e1 : IntKind.i64.wrap (t - ot) = t - ot := IntWalk.i64_in _ (by omega)
  have e2 : IntKind.i64.wrap (qt - ot) = qt - ot := IntWalk.i64_in _ (by omega)
  have e3 : IntKind.i64.wrap (qh - oh) = qh - oh := IntWalk.i64_in _ (by have := ho.h0; have := ho.h1; have := ho2.h0; have := ho2.h1; simp only at *; omega)
  have e4 : IntKind.i64.wrap (qr - or_) = qr - or_ := IntWalk.i64_in _ (by have := ho.r0; have := ho.r1; have := ho2.r0; have := ho2.r1; simp only at *; omega)
  have e5 : IntKind.i64.wrap (qb - ob) = qb - ob := IntWalk.i64_in _ (by have := ho.b0; have := ho.b1; have := ho2.b0; have := ho2.b1; simp only at *; omega)
  have e6 : IntKind.i64.wrap ((qh - oh) * (t - ot)) = (qh - oh) * (t - ot) := IntWalk.i64_in _ (by omega)
  have e7 : IntKind.i64.wrap ((qr - or_) * (t - ot)) = (qr - or_) * (t - ot) := IntWalk.i64_in _ (by omega)
  have e8 : IntKind.i64.wrap ((qb - ob) * (t - ot)) = (qb - ob) * (t - ot) := IntWalk.i64_in _ (by omega)
  have e9 : IntKind.i64.wrap (oh + (qh - oh) * (t - ot) / (qt - ot)) = oh + (qh - oh) * (t - ot) / (qt - ot) := IntWalk.i64_in _ (by have := ho2.h0; have := ho2.h1; simp only at *; omega)
  have e10 : IntKind.i64.wrap (or_ + upD ((qr - or_) * (t - ot)) (qt - ot)) = or_ + upD ((qr - or_) * (t - ot)) (qt - ot) := IntWalk.i64_in _ (by have := ho2.r0; have := ho2.r1; simp only at *; omega)
  have e11 : IntKind.i64.wrap (ob + upD ((qb - ob) * (t - ot)) (qt - ot)) = ob + upD ((qb - ob) * (t - ot)) (qt - ot) := IntWalk.i64_in _ (by have := ho2.b0; have := ho2.b1; simp only at *; omega)
  clear m1 m2 m3 hd hnn v1 u2 u3 ho ho2 ht1 ht3 d0 d1 d2 d3 d4 d5 c0 c1 c2 c3 c4 c5 x1 x2 x3 x4 y1 z0 hbb l0 l1 k0 k1 hwp
  have tok : True := trivial
  obtain ⟨a0, a1, a2, a3, a4, a5⟩ := id n7
  obtain ⟨r0, r1, r2, r3, r4, r5⟩ := id n8
  simp only at a0 a1 a2 a3 a4 a5 r0 r1 r2 r3 r4 r5
  go_upto_region 5 with (fail)
  refine wp_region_quiet_below (by kernel_rfl) (by kernel_rfl) ?_
  have k7 := cell_regrown a0
  have k8 := cell_regrown r0
  repeat (go_big_quiet_step (fail))
  refine wpQuiet_nil ?_
  intro _ hw'
  obtain ⟨⟨dq, osq⟩, hw''⟩ := hw'
  subst hw''
  have hM2 := hM.on (below_regrown wc dq osq)
  generalize Sort.grow (redrawn wc dq) osq = wd at *
  clear k7 k8 a0 a1 a2 a3 a4 a5 r0 r1 r2 r3 r4 r5 n7 n8 hbc z7 z8 hM
  obtain ⟨_, ⟨a0, a1, a2, a3, a4, a5⟩, ⟨r0, r1, r2, r3, r4, r5⟩, z7, z8⟩ := id hM2
  simp only at a0 a1 a2 a3 a4 a5 r0 r1 r2 r3 r4 r5
  go_wp2_with (first
   | (go_at_call 79; go_loud (refine (HTo.out _ (by exact hM2)).mono ?_; rintro e we ⟨rfl, hM3⟩; have hM4 := hM3.on ((Below.refl _ we).alloc (Nat.le_refl _) (.cells #[.int .i64 (ox + (qx - ox) * (t - ot) / (qt - ot)), .int .i64 (oy + (qy - oy) * (t - ot) / (qt - ot))] 48)); obtain ⟨⟨j0, j1, ⟨q0, jn⟩, f0, f1, f2, f3, f4, f5⟩, ⟨a0, a1, a2, a3, a4, a5⟩, ⟨r0, r1, r2, r3, r4, r5⟩, z7, z8⟩ := id hM3; simp only at a0 a1 a2 a3 a4 a5 r0 r1 r2 r3 r4 r5; obtain ⟨i0, i1, i2, i3, i4, i5⟩ := id jn; have s7 : (b7 != we.heap.size) = true := (by rw [bne_iff_ne]; omega); have s8 : (b8 != we.heap.size) = true := (by rw [bne_iff_ne]; omega); have s9 : (w.heap.size != we.heap.size) = true := (by rw [bne_iff_ne]; omega)))
   | (go_at_call 80; go_loud (refine (HDh.out _).mono ?_; rintro e wf ⟨rfl, rfl⟩))
   | (go_at_call 81; go_loud (first
     | (have _t := tok; refine (HUr.out _).mono ?_; rintro e wg ⟨rfl, rfl⟩; clear tok)
     | (refine (HUb.out _).mono ?_; rintro e wh ⟨rfl, rfl⟩))))
  obtain ⟨p1', p2'⟩ := NdAt.set (w := w) (W := we) ⟨i0, i1, i2, i3, i4, i5⟩ (Nat.le_refl _) j1 ⟨t, ox + (qx - ox) * (t - ot) / (qt - ot), oy + (qy - oy) * (t - ot) / (qt - ot), oh + (qh - oh) * (t - ot) / (qt - ot), or_ + upD ((qr - or_) * (t - ot)) (qt - ot), ob + upD ((qb - ob) * (t - ot)) (qt - ot)⟩
  have hz : (setNd w.heap.size ⟨t, ox + (qx - ox) * (t - ot) / (qt - ot), oy + (qy - oy) * (t - ot) / (qt - ot), oh + (qh - oh) * (t - ot) / (qt - ot), or_ + upD ((qr - or_) * (t - ot)) (qt - ot), ob + upD ((qb - ob) * (t - ot)) (qt - ot)⟩ we).heap.size = we.heap.size := by
   unfold setNd
   simp only [World.size_setCell]
  exact ret_at (p1'.below ((Below.refl _ _).alloc (Nat.le_refl _) _) (by rw [hz]; exact j0)) (p2'.alloc p2'.size _) rfl rfl
theorem at_any (A : Option Addr) (n c : Nat) (l : Tu) (t : Int) (w : World) (hA : TuA A n l w) (hok : TuOk l) (h0 : fstT l ≤ t) (h1 : t ≤ lstT l) :
  Calls Tryz.prog 49 #[.slice A n c, .int .i64 t] w fun e w' => e = .returned (ndA (atN l t)) ∧ Below w.heap.size w w' := by
 by_cases hit : (l[lowT l t]!).t = t
 ·exact at_hit A n c l t w hA hok h0 h1 hit
 ·exact at_mid A n c l t w hA hok h0 h1 hit
end
section
open Go.RowKit
theorem ret_At {q : Nd} {k : Int} {w W : World} {A : Act} (h : NdAt w.heap.size q W) (hb : Below w.heap.size w W) (h4 : A.tmps.getD 4 undef = .pointer (some ⟨w.heap.size, 0, none⟩)) (h5 : A.tmps.getD 5 undef = .int .i64 k) (hd : A.defers = []) :
  bodyPost Tryz.prog Tryz.f15 (fun e w' => e = .returned (.tuple #[ndA q, .int .i64 k]) ∧ Below w.heap.size w w') Exit.ret A W := by
 obtain ⟨r0, r1, r2, r3, r4, r5⟩ := h
 refine bodyPost_ret (v := .tuple #[ndA q, .int .i64 k]) ?_ hd ⟨rfl, hb⟩
 unfold ndA
 simp only [Array.getD_eq_getD_getElem?] at h4 h5
 simp [results, Tryz.results15, go_sem, r0, r1, r2, r3, r4, r5, h4, h5]
def AtP (l : Tu) (t : Int) (w : World) : Ending → World → Prop := fun e w' => e = .returned (.tuple #[ndA (tubeAt l t).1, .int .i64 (tubeAt l t).2]) ∧ Below w.heap.size w w'
set_option maxRecDepth 100000 in
set_option maxHeartbeats 8000000 in
theorem At_bad (A : Option Addr) (n c : Nat) (l : Tu) (t : Int) (w : World) (hA : TuA A n l w) (hn : n ≤ maxLen) (hE : tuE l ≠ 0) :
  Calls Tryz.prog 15 #[.slice A n c, .int .i64 t] w (AtP l t w) := by
 have HR : Hid (tubeAt l t = (default, tuE l)) := Lib.hid (by unfold tubeAt; rw [if_pos hE])
 have HC := Lib.hid (fun (W : World) (hb : AtF w W) => (TCheck_any A n c l W (hA.below hb.2.1) hn).mono fun e W2 h => (show e = .returned (.int .i64 (tuE l)) ∧ AtF w W2 from ⟨h.1, hb.on h.2⟩))
 unfold AtP
 rw [HR.out]
 generalize tuE l = k at *
 have e1 : (k != 0) = true := by simpa using hE
 have e2 : decide (k = 0) = false := decide_eq_false hE
 clear hE HR hA
 go_enter Tryz.func15, Tryz.ntmps15
 go_wp2_with (go_at_call 47; go_loud (refine (HC.out _ (by exact AtF.start w)).mono ?_; rintro e w1 ⟨rfl, z0, y1, ⟨q0, r0, r1, r2, r3, r4, r5⟩, f0, f1, f2, f3, f4, f5⟩))
 obtain ⟨x1, x2⟩ := NdAt.set (w := w) (W := w1) ⟨r0, r1, r2, r3, r4, r5⟩ (Nat.le_refl _) y1 default
 exact ret_At x1 x2 rfl rfl rfl
set_option maxRecDepth 100000 in
set_option maxHeartbeats 8000000 in
theorem At_out (A : Option Addr) (n c : Nat) (l : Tu) (t : Int) (w : World) (hA : TuA A n l w) (hE : tuE l = 0) (ht : t < fstT l ∨ lstT l < t) :
  Calls Tryz.prog 15 #[.slice A n c, .int .i64 t] w (AtP l t w) := by
 have hok := tuOk_of hE
 have hl := hA.1
 have h0 := hok.n0
 have hn := hok.n1
 have HR : Hid (tubeAt l t = (default, 12)) := Lib.hid (by unfold tubeAt; rw [if_neg (by rw [hE]; decide), if_pos ht])
 have HC := Lib.hid (fun (W : World) (hb : AtF w W) => (TCheck_any A n c l W (hA.below hb.2.1) (by unfold maxLen; omega)).mono fun e W2 h => (show e = .returned (.int .i64 0) ∧ AtF w W2 from ⟨by rw [h.1, hE], hb.on h.2⟩))
 have HE := Lib.hid (fun (W : World) (hb : AtF w W) => (Ends_any A n c l W (hA.below hb.2.1) (by omega) (by omega)).mono fun e W2 h => (show e = .returned (.tuple #[.int .i64 (fstT l), .int .i64 (lstT l)]) ∧ AtF w W2 from ⟨h.1, hb.on h.2⟩))
 unfold AtP
 rw [HR.out]
 generalize fstT l = a at *
 generalize lstT l = b at *
 clear HR hA hE hok hl h0 hn
 by_cases h1 : t < a
 ·have e1 : decide (t < a) = true := decide_eq_true h1
  clear ht h1
  go_enter Tryz.func15, Tryz.ntmps15
  go_wp2_with (first
   | (go_at_call 47; go_loud (refine (HC.out _ (by exact AtF.start w)).mono ?_; rintro e w1 ⟨rfl, hF⟩))
   | (go_at_call 48; go_loud (refine (HE.out _ (by exact hF)).mono ?_; rintro e w2 ⟨rfl, z0, y1, ⟨q0, r0, r1, r2, r3, r4, r5⟩, f0, f1, f2, f3, f4, f5⟩)))
  obtain ⟨x1, x2⟩ := NdAt.set (w := w) (W := w2) ⟨r0, r1, r2, r3, r4, r5⟩ (Nat.le_refl _) y1 default
  exact ret_At x1 x2 rfl rfl rfl
 ·have e1 : decide (t < a) = false := decide_eq_false h1
  have e2 : decide (b < t) = true := decide_eq_true (by omega)
  clear ht h1
  go_enter Tryz.func15, Tryz.ntmps15
  go_wp2_with (first
   | (go_at_call 47; go_loud (refine (HC.out _ (by exact AtF.start w)).mono ?_; rintro e w1 ⟨rfl, hF⟩))
   | (go_at_call 48; go_loud (refine (HE.out _ (by exact hF)).mono ?_; rintro e w2 ⟨rfl, z0, y1, ⟨q0, r0, r1, r2, r3, r4, r5⟩, f0, f1, f2, f3, f4, f5⟩)))
  obtain ⟨x1, x2⟩ := NdAt.set (w := w) (W := w2) ⟨r0, r1, r2, r3, r4, r5⟩ (Nat.le_refl _) y1 default
  exact ret_At x1 x2 rfl rfl rfl
set_option maxRecDepth 100000 in
set_option maxHeartbeats 8000000 in
theorem At_in (A : Option Addr) (n c : Nat) (l : Tu) (t : Int) (w : World) (hA : TuA A n l w) (hE : tuE l = 0) (h0 : fstT l ≤ t) (h1 : t ≤ lstT l) :
  Calls Tryz.prog 15 #[.slice A n c, .int .i64 t] w (AtP l t w) := by
 have hok := tuOk_of hE
 have hl := hA.1
 have hn0 := hok.n0
 have hn := hok.n1
 have HR : Hid (tubeAt l t = (atN l t, 0)) := Lib.hid (by unfold tubeAt; rw [if_neg (by rw [hE]; decide), if_neg (by omega)])
 have HC := Lib.hid (fun (W : World) (hb : AtF w W) => (TCheck_any A n c l W (hA.below hb.2.1) (by unfold maxLen; omega)).mono fun e W2 h => (show e = .returned (.int .i64 0) ∧ AtF w W2 from ⟨by rw [h.1, hE], hb.on h.2⟩))
 have HE := Lib.hid (fun (W : World) (hb : AtF w W) => (Ends_any A n c l W (hA.below hb.2.1) (by omega) (by omega)).mono fun e W2 h => (show e = .returned (.tuple #[.int .i64 (fstT l), .int .i64 (lstT l)]) ∧ AtF w W2 from ⟨h.1, hb.on h.2⟩))
 have HA := Lib.hid (fun (W : World) (hb : AtF w W) => (at_any A n c l t W (hA.below hb.2.1) hok h0 h1).mono fun e W2 h => (show e = .returned (ndA (atN l t)) ∧ AtF w W2 from ⟨h.1, hb.on h.2⟩))
 unfold AtP
 rw [HR.out]
 generalize atN l t = q at *
 unfold ndA at HA
 have e1 : decide (t < fstT l) = false := decide_eq_false (by omega)
 have e2 : decide (lstT l < t) = false := decide_eq_false (by omega)
 generalize fstT l = a at *
 generalize lstT l = b at *
 clear HR hA hE hok hl hn0 hn h0 h1
 go_enter Tryz.func15, Tryz.ntmps15
 go_wp2_with (first
  | (go_at_call 47; go_loud (refine (HC.out _ (by exact AtF.start w)).mono ?_; rintro e w1 ⟨rfl, hF⟩))
  | (go_at_call 48; go_loud (refine (HE.out _ (by exact hF)).mono ?_; rintro e w2 ⟨rfl, hF2⟩))
  | (go_at_call 49; go_loud (refine (HA.out _ (by exact hF2)).mono ?_; rintro e w3 ⟨rfl, z0, y1, ⟨q0, r0, r1, r2, r3, r4, r5⟩, f0, f1, f2, f3, f4, f5⟩)))
 obtain ⟨x1, x2⟩ := NdAt.set (w := w) (W := w3) ⟨r0, r1, r2, r3, r4, r5⟩ (Nat.le_refl _) y1 q
 exact ret_At x1 x2 rfl rfl rfl
theorem At_any (A : Option Addr) (n c : Nat) (l : Tu) (t : Int) (w : World) (hA : TuA A n l w) (hn : n ≤ maxLen) :
  Calls Tryz.prog 15 #[.slice A n c, .int .i64 t] w (AtP l t w) := by
 by_cases hE : tuE l = 0
 ·by_cases ht : t < fstT l ∨ lstT l < t
  ·exact At_out A n c l t w hA hE ht
  ·exact At_in A n c l t w hA hE (by omega) (by omega)
 ·exact At_bad A n c l t w hA hn hE
end
end Go.Proofs.YtaebebpldkciiaaGreatDoor
