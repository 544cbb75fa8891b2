/- Plain words: verbs, and what Check answers. -/
import Derived.Test.YtdlifdmnfbjokaaDoorName
namespace Go.Proofs.YtdlifdmnfbjokaaDoor

/-- The verbs. -/
def vbs : List ByteArray := [⟨#[104, 101, 105, 103, 104, 116]⟩, ⟨#[104, 101, 97, 100, 105, 110, 103]⟩, ⟨#[115, 112, 101, 101, 100]⟩, ⟨#[100, 105, 114, 101, 99, 116]⟩, ⟨#[104, 111, 108, 100]⟩, ⟨#[99, 111, 110, 116, 97, 99, 116]⟩, ⟨#[108, 97, 110, 100]⟩, ⟨#[111, 102, 102, 101, 114]⟩, ⟨#[97, 99, 99, 101, 112, 116]⟩, ⟨#[100, 114, 111, 112]⟩]
/-- The first place of a text in a list; -1 if it is not there. -/
def idxL (s : ByteArray) : List ByteArray → Nat → Int
  | [], _ => -1
  | x :: r, i => if x = s then (i : Int) else idxL s r (i + 1)
def vIx (s : ByteArray) : Int := idxL s vbs 0
theorem idxL_bd (s : ByteArray) : ∀ (l : List ByteArray) (i : Nat), idxL s l i = -1 ∨ ((i : Int) ≤ idxL s l i ∧ idxL s l i < (i : Int) + l.length)
  | [], i => .inl rfl
  | x :: r, i => by
    unfold idxL
    split
    · right; rw [List.length_cons]; omega
    · have := idxL_bd s r (i + 1)
      rw [List.length_cons]; omega
theorem vIx_bd (s : ByteArray) : -1 ≤ vIx s ∧ vIx s ≤ 9 := by
  have := idxL_bd s vbs 0
  have h : vbs.length = 10 := rfl
  rw [h] at this
  unfold vIx
  omega
theorem idxL_mem (s : ByteArray) : ∀ (l : List ByteArray) (i : Nat), 0 ≤ idxL s l i → s ∈ l
  | [], i, h => by unfold idxL at h; omega
  | x :: r, i, h => by
    unfold idxL at h
    split at h
    · rename_i e; rw [e]; simp
    · exact List.mem_cons_of_mem _ (idxL_mem s r (i + 1) h)
theorem vIx_mem {s : ByteArray} (h : 0 ≤ vIx s) : s ∈ vbs := idxL_mem s vbs 0 h
structure Cm where
  verb : ByteArray
  call : ByteArray
  n : Int
  fix : ByteArray
def cm0 : Cm := ⟨.empty, .empty, 0, .empty⟩
def numV (v : Int) : Bool := decide (v ≤ 2)
def fixV (v : Int) : Bool := decide (2 < v) && decide (v ≤ 7)
def mostV (v : Int) : Int := if v = 0 then 60000 else if v = 1 then 4095 else 400
/-- What Check answers. -/
def chkC (c : Cm) : Int :=
  if vIx c.verb < 0 then 5
  else if nameB c.call = false ∨ (fixV (vIx c.verb) = true ∧ nameB c.fix = false) then 6
  else if (fixV (vIx c.verb) = false ∧ c.fix ≠ .empty) ∨ (numV (vIx c.verb) = false ∧ c.n ≠ 0) then 3
  else if numV (vIx c.verb) = true ∧ (c.n < 0 ∨ mostV (vIx c.verb) < c.n) then 4 else 0
end Go.Proofs.YtdlifdmnfbjokaaDoor
