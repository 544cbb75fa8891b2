/- Rules in general: what they find, and what that says of the first tracks alone. -/
import Derived.Test.YtdmecagdjbjgjaaR26
import Derived.Test.YtdmecagdjbjgjaaR27
import Derived.Test.YtdmecagdjbjgjaaR28
import Derived.Test.YtdmecagdjbjgjaaR31
import Derived.Test.YtdmecagdjbjgjaaR23
namespace Go.Proofs.Ytdmecagdjbjgjaa
open Go.RowKit

set_option maxRecDepth 100000 in
set_option maxHeartbeats 8000000 in
theorem NearL_any (a b lv : Int) (w : World) (ha : 0 ≤ a ∧ a ≤ 1000000) (hb : 0 ≤ b ∧ b ≤ 60000) (hlv : 0 ≤ lv ∧ lv ≤ 9) : Calls Try.prog 8 #[.agg #[.int .i64 a, .int .i64 b], .int .i64 lv] w fun E w' => E = .returned (.tuple #[.iface 71 (.agg #[.string ⟨#[110, 101, 97, 114]⟩, .int .i64 lv, .int .i64 a, .int .i64 b]), .int .i64 0]) ∧ Below w.heap.size w w' := by
  have HC := Lib.hid (fun W => CheckSep_any a b W)
  have hz : sepE a b = 0 := if_pos ⟨ha.1, ha.2, hb.1, hb.2⟩
  rw [hz] at HC
  have HW := Lib.hid (fun W => wrong_any lv W)
  rw [show (decide (lv < 0) || decide ((9 : Int) < lv)) = false by simp; omega] at HW
  clear ha hb hz hlv
  obtain ⟨w1, hw1⟩ : ∃ W, w.alloc (.cells #[.int .i64 a, .int .i64 b] 27) = W := ⟨_, rfl⟩
  have hb1 : Below w.heap.size w w1 := by rw [← hw1]; exact (Below.refl _ _).alloc (Nat.le_refl _) _
  have hy : w1.heap[w.heap.size]? = some (.cells #[.int .i64 a, .int .i64 b] 27 (0, 0)) := by rw [← hw1]; exact heap_alloc_new _ _
  have hl : w.heap.size < w1.heap.size := by rw [← hw1]; simp
  have c0 : w1.cell? ⟨w.heap.size, 0, none⟩ = some (.int .i64 a) := cell_of_row w1 _ 0 _ 27 (0, 0) hy
  have c1 : w1.cell? ⟨w.heap.size, 1, none⟩ = some (.int .i64 b) := cell_of_row w1 _ 1 _ 27 (0, 0) hy
  have HB1 := Lib.hid hb1
  clear hb1 hy
  obtain ⟨g, hg⟩ : ∃ g, w.heap.size = g := ⟨_, rfl⟩
  have HG := Lib.hid hg
  rw [hg] at c0 c1 hl
  go_enter Try.func8, Try.ntmps8
  go_wp2_with (first
    | (go_at_call 20; go_loud (refine (HW.out _).mono ?_; rintro E w2 ⟨rfl, rfl⟩))
    | (go_at_call 21; go_loud (refine (HC.out _).mono ?_; rintro E w2 ⟨rfl, hb2⟩; have d0 := (hb2.cell (p := ⟨g, 0, none⟩) hl).trans c0; have d1 := (hb2.cell (p := ⟨g, 1, none⟩) hl).trans c1; have HB2 := Lib.hid (HB1.out.trans (hb2.mono HB1.out.size)); clear hb2)))
  all_goals
    go_ret2
    exact ⟨rfl, by first | exact HB2.out | (rw [← HG.out]; exact HB2.out)⟩

theorem tkE_notbad {T : Nat → Tr} {i : Nat} (h : tkE T i = 0) : ¬ BadT (T i) := by
  unfold tkE at h
  by_cases h1 : ptE (T i).x (T i).y = 0
  · rw [if_neg (by simp [h1])] at h
    by_cases h2 : BadT (T i)
    · rw [if_pos h2] at h; cases h
    · exact h2
  · rw [if_pos h1] at h; exact absurd h h1

/-- The scene with its first tracks alone. -/
def few (s : Sc) (k : Nat) : Sc := { s with n := k }
theorem firstE_less {f : Nat → Int} {n : Nat} (h : firstE f n = 0) : ∀ k, k ≤ n → firstE f k = 0
  | 0, _ => rfl
  | k + 1, hk => firstE_next (firstE_less h k (by omega)) (firstE_zero h k (by omega))
theorem few_check {s : Sc} {k : Nat} (h : checkE s = 0) (hk : k ≤ s.n) : checkE (few s k) = 0 := by
  unfold checkE at h ⊢
  split at h
  · cases h
  rename_i h1
  split at h
  · cases h
  rename_i h2
  split at h
  · rename_i h3; exact absurd h h3
  rename_i h3
  have h3 : firstE (tkE s.T) s.n = 0 := by simpa using h3
  rw [if_neg (by show ¬ (32 < k ∨ 12 < s.m); omega), if_neg (show ¬ ((few s k).tm < 0 ∨ 200000 < (few s k).tm) from h2), if_neg (by show ¬ firstE (tkE s.T) k ≠ 0; rw [firstE_less h3 k hk]; simp)]
  exact h
theorem few_at {s : Sc} {k : Nat} {w : World} {N : Nat} (h : s.at_ w N) (hk : k ≤ s.n) : (few s k).at_ w N := ⟨Nat.le_trans hk h.1, h.2.1.less hk, h.2.2.1, h.2.2.2⟩

def inF (k : Nat) (a : Al) : Bool := decide (a.a < k) && decide (a.b < k)
theorem singL_few (T : Nat → Tr) (t : ByteArray) (lv : Int) (f : Tr → Bool) (k : Nat) : ∀ n, k ≤ n → singL T t lv f k = (singL T t lv f n).filter (inF k)
  | n, hn => by
    rcases Nat.eq_or_lt_of_le hn with rfl | h
    · refine (List.filter_eq_self.2 fun a ha => ?_).symm
      obtain ⟨b, hb, _, rfl⟩ := (singL_mem T t lv f a k).1 ha
      unfold inF
      simp
      omega
    · match n, h with
      | n + 1, h =>
        rw [singL_step, List.filter_append, ← singL_few T t lv f k n (by omega)]
        split
        · rw [List.filter_cons, if_neg (by unfold inF; simp; omega)]; simp
        · simp
theorem nearL_few (T : Nat → Tr) (t : ByteArray) (lv lat vert : Int) (k : Nat) : ∀ n, k ≤ n → nearL T t lv lat vert k = (nearL T t lv lat vert n).filter (inF k)
  | n, hn => by
    rcases Nat.eq_or_lt_of_le hn with rfl | h
    · refine (List.filter_eq_self.2 fun x hx => ?_).symm
      obtain ⟨a, b, h1, h2, _, rfl⟩ := (nearL_mem T t lv lat vert x k).1 hx
      unfold inF
      simp
      omega
    · match n, h with
      | n + 1, h =>
        rw [nearL_succ, List.filter_append, ← nearL_few T t lv lat vert k n (by omega)]
        rw [show (innL T t lv lat vert n n).filter (inF k) = [] from List.filter_eq_nil_iff.2 fun x hx => by
          obtain ⟨a, h1, _, rfl⟩ := (innL_mem T t lv lat vert n x n).1 hx
          unfold inF
          simp
          omega]
        simp

/-- What is known of a rule's alerts. -/
structure Good (AF : Sc → List Al) (nm : ByteArray) : Prop where
  len : ∀ s, (AF s).length ≤ 1024
  front : ∀ s k, checkE s = 0 → k ≤ s.n → AF (few s k) = (AF s).filter (inF k)
  name : ∀ s a, a ∈ AF s → a.r = nm
theorem good_sing (nm : ByteArray) (lv : Int) (f : Sc → Tr → Bool) (hf : ∀ s k, f (few s k) = f s) : Good (fun s => singA s nm lv (f s)) nm where
  len := fun s => by
    show (singA s nm lv (f s)).length ≤ 1024
    unfold singA
    split
    · have := singL_len s.T nm lv (f s) s.n
      have := (checkE_zero (by assumption)).1
      omega
    · simp
  front := fun s k h hk => by
    show singA (few s k) nm lv (f (few s k)) = (singA s nm lv (f s)).filter (inF k)
    unfold singA
    rw [if_pos h, if_pos (few_check h hk), hf]
    exact singL_few s.T nm lv (f s) k s.n hk
  name := fun s a ha => by
    have ha : a ∈ singA s nm lv (f s) := ha
    unfold singA at ha
    split at ha
    · obtain ⟨_, _, _, rfl⟩ := (singL_mem _ _ _ _ _ _).1 ha
      rfl
    · cases ha
theorem good_near (nm : ByteArray) (lv lat vert : Int) : Good (fun s => nearA s nm lv lat vert) nm where
  len := fun s => by
    show (nearA s nm lv lat vert).length ≤ 1024
    unfold nearA
    split
    · have h1 := (checkE_zero (by assumption)).1
      have := nearL_len s.T nm lv lat vert s.n h1
      omega
    · simp
  front := fun s k h hk => by
    show nearA (few s k) nm lv lat vert = (nearA s nm lv lat vert).filter (inF k)
    unfold nearA
    rw [if_pos h, if_pos (few_check h hk)]
    exact nearL_few s.T nm lv lat vert k s.n hk
  name := fun s a ha => by
    have ha : a ∈ nearA s nm lv lat vert := ha
    unfold nearA at ha
    split at ha
    · obtain ⟨_, _, _, _, _, rfl⟩ := (nearL_mem _ _ _ _ _ _ _).1 ha
      rfl
    · cases ha

/-- A rule that can be asked, of whatever scene. -/
def RuG (w : World) (r : Value) (AF : Sc → List Al) (nm : ByteArray) : Prop :=
  (∃ lv lat vert, r = .iface 71 (.agg #[.string nm, .int .i64 lv, .int .i64 lat, .int .i64 vert]) ∧ ∀ s W, Below w.heap.size w W → s.at_ W W.heap.size → Calls Try.prog 106 #[.agg #[.string nm, .int .i64 lv, .int .i64 lat, .int .i64 vert], s.val] W (AlsP (AF s) W)) ∨
  (∃ lv k cap, r = .iface 113 (.agg #[.string nm, .int .i64 lv, .func (.func k) #[] cap]) ∧ ∀ s W, Below w.heap.size w W → s.at_ W W.heap.size → Calls Try.prog 108 #[.agg #[.string nm, .int .i64 lv, .func (.func k) #[] cap], s.val] W (AlsP (AF s) W))
theorem RuG.below {w w' : World} {r : Value} {AF : Sc → List Al} {nm : ByteArray} (h : RuG w r AF nm) (hb : Below w.heap.size w w') : RuG w' r AF nm := by
  rcases h with ⟨lv, lat, vert, e, h⟩ | ⟨lv, k, cap, e, h⟩
  · exact .inl ⟨lv, lat, vert, e, fun s W hW => h s W (hb.trans (hW.mono hb.size))⟩
  · exact .inr ⟨lv, k, cap, e, fun s W hW => h s W (hb.trans (hW.mono hb.size))⟩
theorem RuG.ok {w : World} {r : Value} {AF : Sc → List Al} {nm : ByteArray} (h : RuG w r AF nm) (s : Sc) (hs : ∀ W, Below w.heap.size w W → s.at_ W W.heap.size) : RuOk s w r (AF s) := by
  rcases h with ⟨lv, lat, vert, e, h⟩ | ⟨lv, k, cap, e, h⟩
  · exact .inl ⟨_, e, fun W hW => h s W hW (hs W hW)⟩
  · exact .inr (.inl ⟨_, e, fun W hW => h s W hW (hs W hW)⟩)

/-- A rule as 'several' makes it; its box, where it has one, is not the block of v. -/
def RuM (w : World) (v r : Value) : Prop :=
  (∃ lv lat vert : Int, (0 ≤ lat ∧ lat ≤ 1000000) ∧ (0 ≤ vert ∧ vert ≤ 60000) ∧ r = .iface 71 (.agg #[.string ⟨#[110, 101, 97, 114]⟩, .int .i64 lv, .int .i64 lat, .int .i64 vert])) ∨
  (∃ (lv : Int) (p : Nat) (h : Int), r = .iface 113 (.agg #[.string ⟨#[108, 111, 119]⟩, .int .i64 lv, .func (.func 41) #[] #[.pointer (some ⟨p, 0, none⟩)]]) ∧ w.heap[p]? = some (.cells #[.int .i64 h] 3 (0, 0)) ∧ v.ownBlock ≠ some p) ∨
  (∃ (lv : Int) (p : Nat) (h : Int), (0 ≤ h ∧ h ≤ 400) ∧ r = .iface 113 (.agg #[.string ⟨#[102, 97, 115, 116]⟩, .int .i64 lv, .func (.func 46) #[] #[.pointer (some ⟨p, 0, none⟩)]]) ∧ w.heap[p]? = some (.cells #[.int .i64 h] 3 (0, 0)) ∧ v.ownBlock ≠ some p) ∨
  (∃ lv : Int, r = .iface 113 (.agg #[.string ⟨#[99, 108, 111, 115, 101, 100]⟩, .int .i64 lv, .func (.func 48) #[] #[]])) ∨
  (∃ lv : Int, r = .iface 113 (.agg #[.string ⟨#[101, 109, 101, 114, 103, 101, 110, 99, 121]⟩, .int .i64 lv, .func (.func 52) #[] #[]]))
theorem RuM.move {w w' : World} {v v' r : Value} (h : RuM w v r) (hp : ∀ p o, w.heap[p]? = some o → v.ownBlock ≠ some p → w'.heap[p]? = some o ∧ v'.ownBlock ≠ some p) : RuM w' v' r := by
  rcases h with h | ⟨lv, p, h, e, hc, hn⟩ | ⟨lv, p, h, hb, e, hc, hn⟩ | h | h
  · exact .inl h
  · exact .inr (.inl ⟨lv, p, h, e, hp _ _ hc hn⟩)
  · exact .inr (.inr (.inl ⟨lv, p, h, hb, e, hp _ _ hc hn⟩))
  · exact .inr (.inr (.inr (.inl h)))
  · exact .inr (.inr (.inr (.inr h)))
theorem RuM.below {w w' : World} {v r : Value} (h : RuM w v r) (hb : Below w.heap.size w w') : RuM w' v r :=
  h.move fun p _ hp hn => ⟨(hb.block p (Array.getElem?_eq_some_iff.1 hp).1).trans hp, hn⟩
theorem RuM.no_nil {w : World} {v r : Value} (h : RuM w v r) : r ≠ .nilIface := by
  rcases h with ⟨_, _, _, _, _, rfl⟩ | ⟨_, _, _, rfl, _⟩ | ⟨_, _, _, _, rfl, _⟩ | ⟨_, rfl⟩ | ⟨_, rfl⟩ <;> (intro e; cases e)
theorem RuM.ok {w : World} {v r : Value} (h : RuM w v r) : ∃ AF nm, RuG w r AF nm ∧ Good AF nm := by
  rcases h with ⟨lv, lat, vert, h1, h2, rfl⟩ | ⟨lv, p, h, rfl, hc, _⟩ | ⟨lv, p, h, hb, rfl, hc, _⟩ | ⟨lv, rfl⟩ | ⟨lv, rfl⟩
  · exact ⟨_, _, .inl ⟨lv, lat, vert, rfl, fun s W _ hS => nearAlerts_any _ lv lat vert s W hS h1 h2⟩, good_near _ lv lat vert⟩
  · have hpl := (Array.getElem?_eq_some_iff.1 hc).1
    refine ⟨_, _, .inr ⟨lv, 41, _, rfl, fun s W hb hS => sing41 _ lv p (fun x => decide (x.h < h)) s W hS fun W' b _ _ hb' => low1_any s (s.T b) p h W' ?_⟩, good_sing _ lv (fun _ x => decide (x.h < h)) (fun _ _ => rfl)⟩
    exact cell_of_row W' p 0 _ 3 (0, 0) ((hb'.block p (Nat.lt_of_lt_of_le hpl hb.size)).trans ((hb.block p hpl).trans hc))
  · have hpl := (Array.getElem?_eq_some_iff.1 hc).1
    refine ⟨_, _, .inr ⟨lv, 46, _, rfl, fun s W hb2 hS => sing46 _ lv p (fastB h) s W hS fun W' b hbn hz hb' => fast1_any s (s.T b) p h W' ?_ hb ?_⟩, good_sing _ lv (fun _ => fastB h) (fun _ _ => rfl)⟩
    · exact cell_of_row W' p 0 _ 3 (0, 0) ((hb'.block p (Nat.lt_of_lt_of_le hpl hb2.size)).trans ((hb2.block p hpl).trans hc))
    · exact tkE_notbad ((checkE_zero hz).2.2.2.1 b hbn)
  · exact ⟨_, _, .inr ⟨lv, 48, _, rfl, fun s W _ hS => sing48 _ lv (closedB s) s W hS fun W' b hbn hz hb' => closed1_any s (s.T b) W' (hS.step hb') hz ((checkE_zero hz).2.2.1 b hbn)⟩, good_sing _ lv closedB (fun _ _ => rfl)⟩
  · exact ⟨_, _, .inr ⟨lv, 52, _, rfl, fun s W _ hS => sing52 _ lv emerB s W hS fun W' b hbn hz _ => emerg1_any (s.T b) (tkE_notbad ((checkE_zero hz).2.2.2.1 b hbn)) s W'⟩, good_sing _ lv (fun _ => emerB) (fun _ _ => rfl)⟩
end Go.Proofs.Ytdmecagdjbjgjaa
