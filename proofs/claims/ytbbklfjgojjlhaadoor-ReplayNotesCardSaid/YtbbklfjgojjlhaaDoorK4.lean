/- Package replay: Run. -/
import Derived.Test.YtbbklfjgojjlhaaDoorK3
namespace Go.Proofs.YtbbklfjgojjlhaaDoor
open Go.RowKit
open Go.Lib hiding intOf

def rowE (e : Ent) : List Value := [.int .i64 e.num, .int .i64 e.time, .string e.kind, .string e.text]
theorem Sl.four {w : World} {B n : Nat} {A : Option Addr} {f : Nat → Ent} (h : Sl w B 4 A n (fun i => rowE (f i))) (i : Nat) (hi : i < n) : ∃ b off, A = some ⟨b, off, none⟩ ∧ b < B ∧
    w.cell? ⟨b, off + i * 4, none⟩ = some (.int .i64 (f i).num) ∧ w.cell? ⟨b, off + i * 4 + 1, none⟩ = some (.int .i64 (f i).time) ∧ w.cell? ⟨b, off + i * 4 + 2, none⟩ = some (.string (f i).kind) ∧ w.cell? ⟨b, off + i * 4 + 3, none⟩ = some (.string (f i).text) := by
  obtain ⟨b, off, e, hb, hr⟩ := h (by omega)
  have h0 := hr i hi 0 _ rfl
  rw [Nat.add_zero] at h0
  exact ⟨b, off, e, hb, h0, hr i hi 1 _ rfl, hr i hi 2 _ rfl, hr i hi 3 _ rfl⟩

/-- The first k of the entries f (o), f (o + 1), .. -/
def entsF (f : Nat → Ent) : Nat → Nat → List Ent
  | _, 0 => []
  | o, k + 1 => f o :: entsF f (o + 1) k
theorem entsF_len (f : Nat → Ent) : ∀ k o, (entsF f o k).length = k
  | 0, _ => rfl
  | k + 1, o => by rw [entsF, List.length_cons, entsF_len f k]

def runG : List Rw → Option Int → Nat → List Ent → List Rw × Nat × Int
  | out, _, _, [] => (out, 0, 0)
  | out, p, i, x :: r => if p.any (fun q => x.num ≠ q + 1) = true then ([], i, 21) else if stC out x ≠ 0 then ([], i, stC out x) else runG (stR out x) (some x.num) (i + 1) r
def runF (l : List Rw) (es : List Ent) : List Rw × Nat × Int := if checkL l ≠ 0 then ([], 0, checkL l) else if 500 < es.length then ([], 0, 2) else runG l none 0 es

theorem setC_fine0 {l : List Rw} {t v : ByteArray} (h : setC l t v = 0) : Fine (setR l t v) := by
  unfold setR; rw [if_pos h]; exact put_fine h
theorem st_fine {l : List Rw} {x : Ent} (h : stC l x = 0) : Fine (stR l x) := by
  unfold stC at h
  unfold stR
  by_cases hc : checkL l = 0
  · have hf := fine_of hc
    rw [if_neg (by simpa using hc)] at h ⊢
    by_cases hx : chk x = 0
    · rw [if_neg (by simpa using hx)] at h ⊢
      by_cases e1 : x.kind = kSet
      · rw [if_pos e1] at h ⊢
        by_cases hb : (cutT x.text).2.2 = true
        · rw [if_pos hb] at h ⊢; exact setC_fine0 h
        · rw [if_neg hb] at h; cases h
      · rw [if_neg e1] at h ⊢
        by_cases e2 : x.kind = kGrow
        · rw [if_pos e2] at h ⊢
          by_cases hb : (cutT x.text).2.2 = true
          · rw [if_pos hb] at h ⊢
            unfold growC at h
            unfold growR
            cases hd : numC (mk (cutT x.text).2.1) with
            | none => rw [hd] at h; cases h
            | some d =>
              rw [hd] at h
              simp only at h ⊢
              by_cases hg : (getL l (mk (cutT x.text).1)).2 ≠ 0
              · rw [if_pos hg] at h; exact absurd h hg
              · rw [if_neg hg] at h ⊢
                cases hn : numC (getL l (mk (cutT x.text).1)).1 with
                | none => rw [hn] at h; cases h
                | some n =>
                  rw [hn] at h
                  simp only at h ⊢
                  by_cases hr : n + d < -1000000000 ∨ 1000000000 < n + d
                  · rw [if_pos hr] at h; cases h
                  · rw [if_neg hr] at h ⊢; exact setC_fine0 h
          · rw [if_neg hb] at h; cases h
        · rw [if_neg e2] at h ⊢
          by_cases e3 : x.kind = kCut
          · rw [if_pos e3] at h ⊢
            by_cases hb : (cutT x.text).2.2 = true
            · rw [if_pos hb] at h; cases h
            · rw [if_neg hb] at h ⊢
              unfold cutR
              rw [if_pos h]
              exact cut_fine hf _
          · rw [if_neg e3]; exact hf
    · rw [if_pos (by simpa using hx)] at h; exact absurd h hx
  · rw [if_pos (by simpa using hc)] at h; exact absurd h hc

theorem st_ok {l : List Rw} {x : Ent} (h : stC l x = 0) : chk x = 0 := by
  unfold stC at h
  by_cases hc : checkL l = 0
  · rw [if_neg (by simpa using hc)] at h
    by_cases hx : chk x = 0
    · exact hx
    · rw [if_pos (by simpa using hx)] at h; exact absurd h hx
  · rw [if_pos (by simpa using hc)] at h; exact absurd h hc

/-- What Run hands back. -/
def RunP (l : List Rw) (i : Nat) (code : Int) (w : World) (e : Ending) (w' : World) : Prop :=
  ∃ A c, e = .returned (.tuple #[.slice A l.length c, .int .i64 (i : Int), .int .i64 code]) ∧ w'.ownsRow w.heap.size 34 2 (.slice A l.length c) l.length (rws l) ∧ Below w.heap.size w w'

theorem RunP_nil {l : List Rw} {i : Nat} {j : Int} {code code' : Int} {w w' : World} (hl : l = []) (hi : j = (i : Int)) (hc : code' = code) (hb : Below w.heap.size w w') : RunP l i code w (.returned (.tuple #[.slice none 0 0, .int .i64 j, .int .i64 code'])) w' := by
  subst hl hc hi
  exact ⟨none, 0, rfl, World.ownsRow_nil _ _ _ _, hb⟩

theorem StAt.of_own {l : List Rw} {A : Option Addr} {c base : Nat} {w : World} (hf : Fine l) (h : w.ownsRow base 34 2 (.slice A l.length c) l.length (rws l)) : StAt l A l.length w :=
  ⟨Sl_rows rwV_len h rfl (by decide), rfl, small_max hf, by have := hf.len; unfold maxLen; omega, fun hA => (own_nil h hA).1⟩
end Go.Proofs.YtbbklfjgojjlhaaDoor
