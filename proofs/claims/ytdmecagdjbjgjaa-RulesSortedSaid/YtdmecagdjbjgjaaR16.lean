/- The rule near: its alerts. -/
import Derived.Test.YtdmecagdjbjgjaaR15
import Derived.Test.YtdmecagdjbjgjaaR8
import Derived.Test.YtdmecagdjbjgjaaRw
import Derived.Deep.QuietTactic
import Derived.Lib.MinMax
namespace Go.Proofs.Ytdmecagdjbjgjaa
open Go.RowKit

/-- An alert. -/
structure Al where
  r : ByteArray
  l : Int
  a : Int
  b : Int
deriving Inhabited, DecidableEq
def alL (x : Al) : List Value := [.string x.r, .int .i64 x.l, .int .i64 x.a, .int .i64 x.b]
def nearP (T : Nat → Tr) (lat vert : Int) (a b : Nat) : Bool := decide (sqI (T a).x (T a).y (T b).x (T b).y < lat * lat) && decide (max ((T a).h - (T b).h) ((T b).h - (T a).h) < vert)
def innL (T : Nat → Tr) (t : ByteArray) (lv lat vert : Int) (b : Nat) : Nat → List Al
  | 0 => []
  | a + 1 => innL T t lv lat vert b a ++ if nearP T lat vert a b = true then [⟨t, lv, a, b⟩] else []
def nearL (T : Nat → Tr) (t : ByteArray) (lv lat vert : Int) : Nat → List Al
  | 0 => []
  | b + 1 => nearL T t lv lat vert b ++ innL T t lv lat vert b b
theorem nearL_succ (T : Nat → Tr) (t : ByteArray) (lv lat vert : Int) (b : Nat) : nearL T t lv lat vert (b + 1) = nearL T t lv lat vert b ++ innL T t lv lat vert b b := rfl
theorem innL_step (T : Nat → Tr) (t : ByteArray) (lv lat vert : Int) (b a : Nat) : innL T t lv lat vert b (a + 1) = innL T t lv lat vert b a ++ if nearP T lat vert a b = true then [⟨t, lv, a, b⟩] else [] := rfl
theorem innL_len (T : Nat → Tr) (t : ByteArray) (lv lat vert : Int) (b : Nat) : ∀ a, (innL T t lv lat vert b a).length ≤ a
  | 0 => Nat.le_refl _
  | a + 1 => by
    have := innL_len T t lv lat vert b a
    rw [innL_step, List.length_append]
    split <;> simp <;> omega
theorem nearL_len (T : Nat → Tr) (t : ByteArray) (lv lat vert : Int) : ∀ b, b ≤ 32 → (nearL T t lv lat vert b).length ≤ 32 * b
  | 0, _ => Nat.le_refl _
  | b + 1, hb => by
    have := nearL_len T t lv lat vert b (by omega)
    have := innL_len T t lv lat vert b b
    rw [nearL_succ, List.length_append]
    omega
theorem innL_mem (T : Nat → Tr) (t : ByteArray) (lv lat vert : Int) (b : Nat) (x : Al) : ∀ k, x ∈ innL T t lv lat vert b k ↔ ∃ a, a < k ∧ nearP T lat vert a b = true ∧ x = ⟨t, lv, a, b⟩
  | 0 => by simp [innL]
  | k + 1 => by
    rw [innL_step, List.mem_append, innL_mem T t lv lat vert b x k]
    constructor
    · rintro (⟨a, h1, h2, h3⟩ | h)
      · exact ⟨a, by omega, h2, h3⟩
      · split at h
        · exact ⟨k, by omega, by assumption, by simpa using h⟩
        · cases h
    · rintro ⟨a, h1, h2, h3⟩
      rcases Nat.lt_or_ge a k with h | h
      · exact Or.inl ⟨a, h, h2, h3⟩
      · obtain rfl : a = k := by omega
        exact Or.inr (by rw [if_pos h2, h3]; exact List.mem_singleton.2 rfl)
theorem nearL_mem (T : Nat → Tr) (t : ByteArray) (lv lat vert : Int) (x : Al) : ∀ n, x ∈ nearL T t lv lat vert n ↔ ∃ a b, a < b ∧ b < n ∧ nearP T lat vert a b = true ∧ x = ⟨t, lv, a, b⟩
  | 0 => by simp [nearL]
  | n + 1 => by
    rw [nearL_succ, List.mem_append, nearL_mem T t lv lat vert x n, innL_mem]
    constructor
    · rintro (⟨a, b, h1, h2, h3, h4⟩ | ⟨a, h1, h2, h3⟩)
      · exact ⟨a, b, h1, by omega, h3, h4⟩
      · exact ⟨a, n, h1, by omega, h2, h3⟩
    · rintro ⟨a, b, h1, h2, h3, h4⟩
      rcases Nat.lt_or_ge b n with h | h
      · exact Or.inl ⟨a, b, h1, h, h3, h4⟩
      · obtain rfl : b = n := by omega
        exact Or.inr ⟨a, h1, h3, h4⟩

theorem alert_info : (Try.prog.info? 51).map (fun i => (i.zero, i.size, i.bytes)) = some (some (.agg #[.string ByteArray.empty, .int .i64 0, .int .i64 0, .int .i64 0]), 4, 40) := by kernel_rfl

theorem n8_below {w3 W W' : World} {p q g : Nat} {x0 x1 x2 x3 x4 x5 x6 x7 : Value} (hb : Below W.heap.size W W') (hq : q < w3.heap.size) (hp : p < w3.heap.size) (hg : g < w3.heap.size)
    (hs : Below w3.heap.size w3 W ∧ W.cell? ⟨q, 3, none⟩ = some x0 ∧ W.cell? ⟨q, 4, none⟩ = some x1 ∧ W.cell? ⟨q, 7, none⟩ = some x2 ∧ W.cell? ⟨p, 3, none⟩ = some x3 ∧ W.cell? ⟨p, 4, none⟩ = some x4 ∧ W.cell? ⟨p, 7, none⟩ = some x5 ∧ W.cell? ⟨g, 2, none⟩ = some x6 ∧ W.cell? ⟨g, 3, none⟩ = some x7) :
    Below w3.heap.size w3 W' ∧ W'.cell? ⟨q, 3, none⟩ = some x0 ∧ W'.cell? ⟨q, 4, none⟩ = some x1 ∧ W'.cell? ⟨q, 7, none⟩ = some x2 ∧ W'.cell? ⟨p, 3, none⟩ = some x3 ∧ W'.cell? ⟨p, 4, none⟩ = some x4 ∧ W'.cell? ⟨p, 7, none⟩ = some x5 ∧ W'.cell? ⟨g, 2, none⟩ = some x6 ∧ W'.cell? ⟨g, 3, none⟩ = some x7 := by
  have hz := hs.1.size
  have K : ∀ (b o : Nat) (v : Value), b < w3.heap.size → W.cell? ⟨b, o, none⟩ = some v → W'.cell? ⟨b, o, none⟩ = some v := fun b o v hlt h => (hb.cell (p := ⟨b, o, none⟩) (Nat.lt_of_lt_of_le hlt hz)).trans h
  exact ⟨hs.1.trans (hb.mono hz), K _ _ _ hq hs.2.1, K _ _ _ hq hs.2.2.1, K _ _ _ hq hs.2.2.2.1, K _ _ _ hp hs.2.2.2.2.1, K _ _ _ hp hs.2.2.2.2.2.1, K _ _ _ hp hs.2.2.2.2.2.2.1, K _ _ _ hg hs.2.2.2.2.2.2.2.1, K _ _ _ hg hs.2.2.2.2.2.2.2.2⟩

theorem own_base {w : World} {base base' : Nat} {e : TypeId} {size n : Nat} {v : Value} {xs : List Value} (h : w.ownsRow base e size v n xs) (hb : base' ≤ base) : w.ownsRow base' e size v n xs := by
  refine ⟨h.1, ?_⟩
  rcases h.2 with h2 | ⟨g, cap, cur, h1, h2, h3⟩
  · exact .inl h2
  · exact .inr ⟨g, cap, cur, h1, Nat.le_trans hb h2, h3⟩

/-- Another block than the one that an append may write. -/
theorem bk_app {w5 w6 : World} {p g6 cap m cv : Nat} {V : Option Addr} {ob o : Obj} {k : Nat} (hy : w5.heap[p]? = some ob) (hv : (Value.slice V m cv).ownBlock ≠ some p)
    (hg : (w5.alloc o).grownBy w6 (Value.slice V m cv).ownBlock) (hat : (Value.slice V m cv).ownBlock = some g6 ∨ g6 = w5.heap.size + 1) :
    w6.heap[p]? = some ob ∧ (Value.slice (some ⟨g6, 0, none⟩) k cap).ownBlock ≠ some p := by
  have hp : p < w5.heap.size := (Array.getElem?_eq_some_iff.1 hy).1
  refine ⟨(hg.block p (by simp; omega) (fun e => hv e.symm)).trans ((Below.heap_alloc _ _ p (by omega)).trans hy), fun e => ?_⟩
  have e : g6 = p := by simpa [Value.ownBlock] using e
  rcases hat with h | h
  · exact hv (by rw [h, e])
  · omega

def trkOk (t : Tr) : Prop := Bd 1000000 t.x ∧ Bd 1000000 t.y ∧ 0 ≤ t.h ∧ t.h ≤ 60000
theorem tkE_ok {T : Nat → Tr} {i : Nat} (h : tkE T i = 0) : trkOk (T i) := by
  unfold tkE at h
  by_cases h1 : ptE (T i).x (T i).y = 0
  · rw [if_neg (by simp [h1])] at h
    by_cases h2 : BadT (T i)
    · rw [if_pos h2] at h; cases h
    · unfold BadT at h2
      have := ptE_zero h1
      exact ⟨⟨by omega, by omega⟩, ⟨by omega, by omega⟩, by omega, by omega⟩
  · rw [if_pos h1] at h; exact absurd h h1
theorem checkE_zero {s : Sc} (h : checkE s = 0) : s.n ≤ 32 ∧ s.m ≤ 12 ∧ (∀ i, i < s.n → trkOk (s.T i)) ∧ (∀ i, i < s.n → tkE s.T i = 0) ∧ ∀ i, i < s.m → voE s.V i = 0 := by
  unfold checkE at h
  split at h
  · cases h
  split at h
  · cases h
  split at h
  · rename_i h3; exact absurd h h3
  rename_i h1 h2 h3
  have h3 : firstE (tkE s.T) s.n = 0 := by simpa using h3
  exact ⟨by omega, by omega, fun i hi => tkE_ok (firstE_zero h3 i hi), firstE_zero h3, firstE_zero h⟩

def nearA (s : Sc) (t : ByteArray) (lv lat vert : Int) : List Al := if checkE s = 0 then nearL s.T t lv lat vert s.n else []
def AlsP (L : List Al) (w : World) (E : Ending) (w' : World) : Prop := (∃ (V : Option Addr) (cv : Nat), E = .returned (.slice V L.length cv) ∧ w'.ownsRow w.heap.size 51 4 (.slice V L.length cv) L.length (rowsV alL L)) ∧ Below w.heap.size w w'

set_option maxRecDepth 100000 in
set_option maxHeartbeats 16000000 in
theorem nearAlerts_any (t : ByteArray) (lv lat vert : Int) (s : Sc) (w : World) (hS : s.at_ w w.heap.size) (hlat : 0 ≤ lat ∧ lat ≤ 1000000) (_hvert : 0 ≤ vert ∧ vert ≤ 60000) :
    Calls Try.prog 106 #[.agg #[.string t, .int .i64 lv, .int .i64 lat, .int .i64 vert], s.val] w (AlsP (nearA s t lv lat vert) w) := by
  have HR : Hid (nearA s t lv lat vert = if checkE s = 0 then nearL s.T t lv lat vert s.n else []) := Lib.hid rfl
  unfold AlsP
  generalize nearA s t lv lat vert = R at *
  obtain ⟨w1, hw1⟩ : ∃ W, w.alloc (.cells #[.string t, .int .i64 lv, .int .i64 lat, .int .i64 vert] 71) = W := ⟨_, rfl⟩
  obtain ⟨w2, hw2⟩ : ∃ W, w1.alloc (.cells #[.int .i64 s.tm, .slice s.A s.n s.c, .slice s.B s.m s.d] 25) = W := ⟨_, rfl⟩
  have hb1 : Below w.heap.size w w1 := by rw [← hw1]; exact (Below.refl _ _).alloc (Nat.le_refl _) _
  have hb2 : Below w1.heap.size w1 w2 := by rw [← hw2]; exact (Below.refl _ _).alloc (Nat.le_refl _) _
  have hs1 : w1.heap.size = w.heap.size + 1 := by rw [← hw1]; simp
  have hs2 : w2.heap.size = w.heap.size + 1 + 1 := by rw [← hw2]; simp [hs1]
  have hb12 := hb1.trans (hb2.mono hb1.size)
  have hyg : w2.heap[w.heap.size]? = some (.cells #[.string t, .int .i64 lv, .int .i64 lat, .int .i64 vert] 71 (0, 0)) := (hb2.block w.heap.size (by omega)).trans (by rw [← hw1]; exact heap_alloc_new _ _)
  have hyc : w2.heap[w1.heap.size]? = some (.cells #[.int .i64 s.tm, .slice s.A s.n s.c, .slice s.B s.m s.d] 25 (0, 0)) := by rw [← hw2]; exact heap_alloc_new _ _
  have HCH := Lib.hid (Check_any s w2 (hS.step hb12))
  have HT0 := Lib.hid ((hS.step hb12).2.1)
  have hnc := hS.1
  have hck : checkE s = 0 → s.n ≤ 32 ∧ ∀ i, i < s.n → trkOk (s.T i) := fun h => ⟨(checkE_zero h).1, (checkE_zero h).2.2.1⟩
  generalize checkE s = ce at *
  unfold Sc.val at *
  obtain ⟨tm, A, n, c, B, mm, d, T, V⟩ := s
  dsimp only at *
  have hl0 : w.heap.size < w2.heap.size := by omega
  have hl1 : w1.heap.size < w2.heap.size := by omega
  clear hS hb1 hb2
  obtain ⟨g, hg⟩ : ∃ g, w.heap.size = g := ⟨_, rfl⟩
  obtain ⟨k, hk⟩ : ∃ k, w1.heap.size = k := ⟨_, rfl⟩
  rw [hg] at hyg hl0
  rw [hk] at hyc hl1
  have HG := Lib.hid hg
  have HBW := Lib.hid hb12
  have HGY := Lib.hid hyg
  have HKY := Lib.hid hyc
  have c0 : w2.cell? ⟨k, 0, none⟩ = some (.int .i64 tm) := cell_of_row w2 _ 0 _ 25 (0, 0) hyc
  have c1 : w2.cell? ⟨k, 1, none⟩ = some (.slice A n c) := cell_of_row w2 _ 1 _ 25 (0, 0) hyc
  have c2 : w2.cell? ⟨k, 2, none⟩ = some (.slice B mm d) := cell_of_row w2 _ 2 _ 25 (0, 0) hyc
  clear hb12 hyg hyc hs1 hs2
  by_cases hce : ce = 0
  · subst hce
    rw [if_pos rfl] at HR
    obtain ⟨hn, hok⟩ := hck rfl
    have HOK := Lib.hid hok
    clear hck hok
    obtain ⟨i51, E0, E1, E2, E3⟩ := info_parts alert_info
    have hn0 : (0 : Int) ≤ (n : Int) := by omega
    go_enter Try.func106, Try.ntmps106
    go_wp2_with (go_at_call 10; go_loud (refine HCH.out.mono ?_; rintro E wb ⟨rfl, hbc⟩; have HBC := Lib.hid hbc; have k1 : wb.cell? ⟨k, 1, none⟩ = some (.slice A n c) := (hbc.cell (p := ⟨k, 1, none⟩) hl1).trans c1; have hzb := hbc.size; clear hbc))
    have HGb := Lib.hid ((HBC.out.block g hl0).trans HGY.out)
    have HKb := Lib.hid ((HBC.out.block k hl1).trans HKY.out)
    have HTb := Lib.hid ((HT0.out.below HBC.out).more hzb)
    have HBb := Lib.hid (HBW.out.trans (HBC.out.mono HBW.out.size))
    have hgb : g < wb.heap.size := by omega
    have hkb : k < wb.heap.size := by omega
    clear HT0 HCH c0 c1 c2 HGY HKY HBC HBW
    go_loopw [5, 16] (fun v x wr => ∃ (b m : Nat) (V : Option Addr) (cv : Nat), b ≤ n ∧ x = .int .i64 (b : Int) ∧ v = .slice V m cv ∧ Hid ((nearL T t lv lat vert b).length = m) ∧ Hid (wr.ownsRow wb.heap.size 51 4 (.slice V m cv) m (rowsV alL (nearL T t lv lat vert b))) ∧ Hid (Below wb.heap.size wb wr)) (fun _ x _ => n - (intOf x).toNat)
    case atStart => exact ⟨0, 0, none, 0, by omega, rfl, rfl, Lib.hid rfl, Lib.hid (World.ownsRow_nil _ _ _ _), Lib.hid (Below.refl _ _)⟩
    case round =>
      obtain ⟨b, m0, V0, cv0, hbn, rfl, rfl, HM0, HO0, HB0⟩ := hrel
      have hzr := HB0.out.size
      by_cases hlt : b < n
      · obtain ⟨bb, off, rfl, hbb, hr⟩ := HTb.out (by omega)
        have hcs : ∀ i v, (trL (T b))[i]? = some v → wr.cell? ⟨bb, off + b * 13 + i, none⟩ = some v := fun i v hv => (HB0.out.cell (p := ⟨bb, off + b * 13 + i, none⟩) hbb).trans (hr b hlt i v hv)
        have HNP : Hid (∀ a, nearP T lat vert a b = (decide (sqI (T a).x (T a).y (T b).x (T b).y < lat * lat) && decide (max ((T a).h - (T b).h) ((T b).h - (T a).h) < vert))) := Lib.hid fun a => rfl
        have HOKy := Lib.hid (HOK.out b hlt)
        have HTW := Lib.hid hr
        have hbb2 := hbb
        have k1r := (HB0.out.cell (p := ⟨k, 1, none⟩) hkb).trans k1
        obtain ⟨u, hu⟩ : ∃ u, T b = u := ⟨_, rfl⟩
        rw [hu] at hcs HOKy HNP
        clear hu hr
        obtain ⟨y0, y1, y2, y3, y4, y5, y6, y7, y8, y9, y10, y11, y12⟩ := u
        have dy0 : wr.cell? ⟨bb, off + b * 13, none⟩ = some (.int .i64 y0) := hcs 0 _ rfl
        have dy1 : wr.cell? ⟨bb, off + b * 13 + 1, none⟩ = some (.int .i64 y1) := hcs 1 _ rfl
        have dy2 : wr.cell? ⟨bb, off + b * 13 + 2, none⟩ = some (.int .i64 y2) := hcs 2 _ rfl
        have dy3 : wr.cell? ⟨bb, off + b * 13 + 3, none⟩ = some (.int .i64 y3) := hcs 3 _ rfl
        have dy4 : wr.cell? ⟨bb, off + b * 13 + 4, none⟩ = some (.int .i64 y4) := hcs 4 _ rfl
        have dy5 : wr.cell? ⟨bb, off + b * 13 + 5, none⟩ = some (.int .i64 y5) := hcs 5 _ rfl
        have dy6 : wr.cell? ⟨bb, off + b * 13 + 6, none⟩ = some (.int .i64 y6) := hcs 6 _ rfl
        have dy7 : wr.cell? ⟨bb, off + b * 13 + 7, none⟩ = some (.int .i64 y7) := hcs 7 _ rfl
        have dy8 : wr.cell? ⟨bb, off + b * 13 + 8, none⟩ = some (.int .i64 y8) := hcs 8 _ rfl
        have dy9 : wr.cell? ⟨bb, off + b * 13 + 9, none⟩ = some (.int .i64 y9) := hcs 9 _ rfl
        have dy10 : wr.cell? ⟨bb, off + b * 13 + 10, none⟩ = some (.int .i64 y10) := hcs 10 _ rfl
        have dy11 : wr.cell? ⟨bb, off + b * 13 + 11, none⟩ = some (.int .i64 y11) := hcs 11 _ rfl
        have dy12 : wr.cell? ⟨bb, off + b * 13 + 12, none⟩ = some (.int .i64 y12) := hcs 12 _ rfl
        clear hcs
        dsimp only at HOKy HNP
        have l1 : (b : Int) < (n : Int) := by omega
        have l0 : (0 : Int) ≤ (b : Int) := by omega
        have hjn : (b : Int) ≤ (n : Int) := by omega
        have hbc : b ≤ c := by omega
        have hwb : IntKind.i64.wrap ((b : Int) + 1) = (b : Int) + 1 := IntWalk.i64_in _ (by omega)
        obtain ⟨wy, hwy⟩ : ∃ W, wr.alloc (.cells #[.int .i64 y0, .int .i64 y1, .int .i64 y2, .int .i64 y3, .int .i64 y4, .int .i64 y5, .int .i64 y6, .int .i64 y7, .int .i64 y8, .int .i64 y9, .int .i64 y10, .int .i64 y11, .int .i64 y12] 41) = W := ⟨_, rfl⟩
        have hby : Below wr.heap.size wr wy := by rw [← hwy]; exact (Below.refl _ _).alloc (Nat.le_refl _) _
        have hyy : wy.heap[wr.heap.size]? = some (.cells #[.int .i64 y0, .int .i64 y1, .int .i64 y2, .int .i64 y3, .int .i64 y4, .int .i64 y5, .int .i64 y6, .int .i64 y7, .int .i64 y8, .int .i64 y9, .int .i64 y10, .int .i64 y11, .int .i64 y12] 41 (0, 0)) := by rw [← hwy]; exact heap_alloc_new _ _
        have hly : wr.heap.size < wy.heap.size := by rw [← hwy]; simp
        have HYY := Lib.hid hyy
        have HOy := Lib.hid (own_below HO0.out hby (Nat.le_refl _))
        have hoy : (Value.slice V0 m0 cv0).ownBlock ≠ some wr.heap.size := fun e => absurd (HO0.out.lt _ e).2 (Nat.lt_irrefl _)
        have HBy := Lib.hid (HB0.out.trans (hby.mono hzr))
        have k1y := (hby.cell (p := ⟨k, 1, none⟩) (Nat.lt_of_lt_of_le hkb hzr)).trans k1r
        clear hby hyy
        obtain ⟨p, hp⟩ : ∃ p, wr.heap.size = p := ⟨_, rfl⟩
        rw [hp] at HYY hly hoy
        go_wp2
        go_loopw [5, 26] (fun v x wr => ∃ (a m : Nat) (V : Option Addr) (cv : Nat), a ≤ b ∧ x = .int .i64 (a : Int) ∧ v = .slice V m cv ∧ Hid ((nearL T t lv lat vert b ++ innL T t lv lat vert b a).length = m) ∧ Hid (wr.ownsRow wb.heap.size 51 4 (.slice V m cv) m (rowsV alL (nearL T t lv lat vert b ++ innL T t lv lat vert b a))) ∧ Hid (Below wb.heap.size wb wr) ∧ Hid (wr.heap[p]? = some (.cells #[.int .i64 y0, .int .i64 y1, .int .i64 y2, .int .i64 y3, .int .i64 y4, .int .i64 y5, .int .i64 y6, .int .i64 y7, .int .i64 y8, .int .i64 y9, .int .i64 y10, .int .i64 y11, .int .i64 y12] 41 (0, 0)) ∧ (Value.slice V m cv).ownBlock ≠ some p)) (fun _ x _ => b - (intOf x).toNat)
        case atStart => exact ⟨0, m0, V0, cv0, by omega, rfl, rfl, Lib.hid (by rw [show innL T t lv lat vert b 0 = [] from rfl, List.append_nil]; exact HM0.out), Lib.hid (by rw [show innL T t lv lat vert b 0 = [] from rfl, List.append_nil]; exact HOy.out), HBy, Lib.hid ⟨HYY.out, hoy⟩⟩
        case round =>
        obtain ⟨a, m, V, cv, hab, rfl, rfl, HM, HO, HB, HY⟩ := hrel
        have hzr := HB.out.size
        by_cases hlt : a < b
        · have hml : m ≤ 32 * b + a := by have h1 := HM.out; have h2 := nearL_len T t lv lat vert b; have h3 := innL_len T t lv lat vert b a; simp only [List.length_append] at h1; omega
          have hcs : ∀ i v, (trL (T a))[i]? = some v → wr.cell? ⟨bb, off + a * 13 + i, none⟩ = some v := fun i v hv => (HB.out.cell (p := ⟨bb, off + a * 13 + i, none⟩) hbb2).trans (HTW.out a (by omega) i v hv)
          have hokx := HOK.out a (by omega)
          have hoky := HOKy
          have HST := Lib.hid (innL_step T t lv lat vert b a)
          have hnear : Hid (nearP T lat vert a b = (decide (sqI (T a).x (T a).y y3 y4 < lat * lat) && decide (max ((T a).h - y7) (y7 - (T a).h) < vert))) := Lib.hid (HNP.out a)
          obtain ⟨u, hu⟩ : ∃ u, T a = u := ⟨_, rfl⟩
          rw [hu] at hcs hokx hnear
          clear hu
          obtain ⟨x0, x1, x2, x3, x4, x5, x6, x7, x8, x9, x10, x11, x12⟩ := u
          have dx0 : wr.cell? ⟨bb, off + a * 13, none⟩ = some (.int .i64 x0) := hcs 0 _ rfl
          have dx1 : wr.cell? ⟨bb, off + a * 13 + 1, none⟩ = some (.int .i64 x1) := hcs 1 _ rfl
          have dx2 : wr.cell? ⟨bb, off + a * 13 + 2, none⟩ = some (.int .i64 x2) := hcs 2 _ rfl
          have dx3 : wr.cell? ⟨bb, off + a * 13 + 3, none⟩ = some (.int .i64 x3) := hcs 3 _ rfl
          have dx4 : wr.cell? ⟨bb, off + a * 13 + 4, none⟩ = some (.int .i64 x4) := hcs 4 _ rfl
          have dx5 : wr.cell? ⟨bb, off + a * 13 + 5, none⟩ = some (.int .i64 x5) := hcs 5 _ rfl
          have dx6 : wr.cell? ⟨bb, off + a * 13 + 6, none⟩ = some (.int .i64 x6) := hcs 6 _ rfl
          have dx7 : wr.cell? ⟨bb, off + a * 13 + 7, none⟩ = some (.int .i64 x7) := hcs 7 _ rfl
          have dx8 : wr.cell? ⟨bb, off + a * 13 + 8, none⟩ = some (.int .i64 x8) := hcs 8 _ rfl
          have dx9 : wr.cell? ⟨bb, off + a * 13 + 9, none⟩ = some (.int .i64 x9) := hcs 9 _ rfl
          have dx10 : wr.cell? ⟨bb, off + a * 13 + 10, none⟩ = some (.int .i64 x10) := hcs 10 _ rfl
          have dx11 : wr.cell? ⟨bb, off + a * 13 + 11, none⟩ = some (.int .i64 x11) := hcs 11 _ rfl
          have dx12 : wr.cell? ⟨bb, off + a * 13 + 12, none⟩ = some (.int .i64 x12) := hcs 12 _ rfl
          clear hcs
          dsimp only at hokx hnear
          obtain ⟨ox, oy, oh⟩ := hokx
          obtain ⟨py, pz, ph⟩ := hoky.out
          have oh : 0 ≤ x7 ∧ x7 ≤ 60000 := oh
          have ph : 0 ≤ y7 ∧ y7 ≤ 60000 := ph
          have ox : Bd 1000000 x3 := ox
          have oy : Bd 1000000 x4 := oy
          have py : Bd 1000000 y3 := py
          have pz : Bd 1000000 y4 := pz
          have l1 : (a : Int) < (b : Int) := by omega
          have l0 : (0 : Int) ≤ (a : Int) := by omega
          have hwa : IntKind.i64.wrap ((a : Int) + 1) = (a : Int) + 1 := IntWalk.i64_in _ (by omega)
          have hwl : IntKind.i64.wrap (lat * lat) = lat * lat := IntWalk.i64_in _ (by have := mul_bd (m := 1000000) (a := lat) (b := lat) (by omega) (by omega); omega)
          have hw1 : IntKind.i64.wrap (x7 - y7) = x7 - y7 := IntWalk.i64_in _ (by omega)
          have hw2 : IntKind.i64.wrap (y7 - x7) = y7 - x7 := IntWalk.i64_in _ (by omega)
          obtain ⟨latt, hlt2⟩ : ∃ z, lat * lat = z := ⟨_, rfl⟩
          replace hwl := hwl.trans hlt2
          rw [hlt2] at hnear
          obtain ⟨e1, he1⟩ : ∃ z, x7 - y7 = z := ⟨_, rfl⟩
          obtain ⟨e2, he2⟩ : ∃ z, y7 - x7 = z := ⟨_, rfl⟩
          replace hw1 := hw1.trans he1
          rw [he1] at hnear
          replace hw2 := hw2.trans he2
          rw [he2] at hnear
          obtain ⟨mx, hmx0⟩ : ∃ z, max e1 e2 = z := ⟨_, rfl⟩
          rw [hmx0] at hnear
          clear hlt2 he1 he2
          have HSQ := Lib.hid (fun W => Square_any x3 x4 y3 y4 W ox oy py pz)
          obtain ⟨wx, hwx⟩ : ∃ W, wr.alloc (.cells #[.int .i64 x0, .int .i64 x1, .int .i64 x2, .int .i64 x3, .int .i64 x4, .int .i64 x5, .int .i64 x6, .int .i64 x7, .int .i64 x8, .int .i64 x9, .int .i64 x10, .int .i64 x11, .int .i64 x12] 41) = W := ⟨_, rfl⟩
          have hbx : Below wr.heap.size wr wx := by rw [← hwx]; exact (Below.refl _ _).alloc (Nat.le_refl _) _
          have hyx : wx.heap[wr.heap.size]? = some (.cells #[.int .i64 x0, .int .i64 x1, .int .i64 x2, .int .i64 x3, .int .i64 x4, .int .i64 x5, .int .i64 x6, .int .i64 x7, .int .i64 x8, .int .i64 x9, .int .i64 x10, .int .i64 x11, .int .i64 x12] 41 (0, 0)) := by rw [← hwx]; exact heap_alloc_new _ _
          have hlx : wr.heap.size < wx.heap.size := by rw [← hwx]; simp
          have hpr : p < wr.heap.size := (Array.getElem?_eq_some_iff.1 HY.out.1).1
          have hgr : g < wr.heap.size := by omega
          have hpx : p < wx.heap.size := by omega
          have hgx : g < wx.heap.size := by omega
          have HYx := Lib.hid ((hbx.block p hpr).trans HY.out.1)
          have HGx := Lib.hid ((hbx.block g hgr).trans ((HB.out.block g hgb).trans HGb.out))
          have HXx := Lib.hid hyx
          have HBX := Lib.hid hbx
          obtain ⟨q, hq⟩ : ∃ q, wr.heap.size = q := ⟨_, rfl⟩
          have HQ := Lib.hid hq
          rw [hq] at HXx hlx
          have hqx : q < wx.heap.size := hlx
          have hs0 : Below wx.heap.size wx wx.drew ∧ wx.drew.cell? ⟨q, 3, none⟩ = some (.int .i64 x3) ∧ wx.drew.cell? ⟨q, 4, none⟩ = some (.int .i64 x4) ∧ wx.drew.cell? ⟨q, 7, none⟩ = some (.int .i64 x7) ∧ wx.drew.cell? ⟨p, 3, none⟩ = some (.int .i64 y3) ∧ wx.drew.cell? ⟨p, 4, none⟩ = some (.int .i64 y4) ∧ wx.drew.cell? ⟨p, 7, none⟩ = some (.int .i64 y7) ∧ wx.drew.cell? ⟨g, 2, none⟩ = some (.int .i64 lat) ∧ wx.drew.cell? ⟨g, 3, none⟩ = some (.int .i64 vert) := ⟨(Below.refl _ _).drew, cell_of_row wx q 3 _ 41 (0, 0) HXx.out, cell_of_row wx q 4 _ 41 (0, 0) HXx.out, cell_of_row wx q 7 _ 41 (0, 0) HXx.out, cell_of_row wx p 3 _ 41 (0, 0) HYx.out, cell_of_row wx p 4 _ 41 (0, 0) HYx.out, cell_of_row wx p 7 _ 41 (0, 0) HYx.out, cell_of_row wx g 2 _ 71 (0, 0) HGx.out, cell_of_row wx g 3 _ 71 (0, 0) HGx.out⟩
          clear hbx hyx hpr hgr
          have HML := Lib.hid hml
          clear hml
          generalize sqI x3 x4 y3 y4 = sq at *
          by_cases hsq : sq < latt
          · have s1 : decide (sq < latt) = true := decide_eq_true hsq
            by_cases hmx : mx < vert
            · have s2 : decide (mx < vert) = true := decide_eq_true hmx
              have HN2 : Hid (nearP T lat vert a b = true) := Lib.hid (by rw [hnear.out, s1, s2]; rfl)
              clear hnear hsq hmx
              rw [HN2.out, if_pos rfl] at HST
              have HSn := Lib.hid (congrArg (fun l => rowsV alL l) HST.out)
              go_wp2
              refine wp_region_held_drew (S := (fun W => Below wx.heap.size wx W ∧ W.cell? ⟨q, 3, none⟩ = some (.int .i64 x3) ∧ W.cell? ⟨q, 4, none⟩ = some (.int .i64 x4) ∧ W.cell? ⟨q, 7, none⟩ = some (.int .i64 x7) ∧ W.cell? ⟨p, 3, none⟩ = some (.int .i64 y3) ∧ W.cell? ⟨p, 4, none⟩ = some (.int .i64 y4) ∧ W.cell? ⟨p, 7, none⟩ = some (.int .i64 y7) ∧ W.cell? ⟨g, 2, none⟩ = some (.int .i64 lat) ∧ W.cell? ⟨g, 3, none⟩ = some (.int .i64 vert))) (by kernel_rfl) hs0 (fun hHeld => ?_)
              refine wpAnyH_take (i := 0) (oi := ⟨some 31, _, _, _, _, _⟩) (v := ?gav0) rfl (by kernel_rfl) (by kernel_rfl) (by kernel_rfl) (fun _ _ _ h => h) (Or.inl ⟨by rfl, ?gay0⟩) hHeld ?gar0
              case gay0 => (intro W hSw; (try dsimp only at hSw); go_simp; try with_reducible rfl)
              try simp only [Act.put, List.setIfInBounds_toArray, List.set_cons_zero, List.set_cons_succ]
              refine wpAnyH_take (i := 1) (oi := ⟨some 32, _, _, _, _, _⟩) (v := ?gav1) rfl (by kernel_rfl) (by kernel_rfl) (by kernel_rfl) (fun _ _ _ h => h) (Or.inl ⟨by rfl, ?gay1⟩) hHeld ?gar1
              case gay1 => (intro W hSw; (try dsimp only at hSw); go_simp; try with_reducible rfl)
              try simp only [Act.put, List.setIfInBounds_toArray, List.set_cons_zero, List.set_cons_succ]
              refine wpAnyH_take (i := 2) (oi := ⟨some 33, _, _, _, _, _⟩) (v := ?gav2) rfl (by kernel_rfl) (by kernel_rfl) (by kernel_rfl) (fun _ _ _ h => h) (Or.inl ⟨by rfl, ?gay2⟩) hHeld ?gar2
              case gay2 => (intro W hSw; (try dsimp only at hSw); go_simp; try with_reducible rfl)
              try simp only [Act.put, List.setIfInBounds_toArray, List.set_cons_zero, List.set_cons_succ]
              refine wpAnyH_take (i := 3) (oi := ⟨some 34, _, _, _, _, _⟩) (v := ?gav3) rfl (by kernel_rfl) (by kernel_rfl) (by kernel_rfl) (fun _ _ _ h => h) (Or.inl ⟨by rfl, ?gay3⟩) hHeld ?gar3
              case gay3 => (intro W hSw; (try dsimp only at hSw); go_simp; try with_reducible rfl)
              try simp only [Act.put, List.setIfInBounds_toArray, List.set_cons_zero, List.set_cons_succ]
              refine wpAnyH_take (i := 5) (oi := ⟨some 36, _, _, _, _, _⟩) (v := ?gav5) rfl (by kernel_rfl) (by kernel_rfl) (by kernel_rfl) (fun _ _ _ h => h) (Or.inl ⟨by rfl, ?gay5⟩) hHeld ?gar5
              case gay5 => (intro W hSw; (try dsimp only at hSw); go_simp; try with_reducible rfl)
              try simp only [Act.put, List.setIfInBounds_toArray, List.set_cons_zero, List.set_cons_succ]
              refine wpAnyH_take (i := 6) (oi := ⟨some 37, _, _, _, _, _⟩) (v := ?gav6) rfl (by kernel_rfl) (by kernel_rfl) (by kernel_rfl) (fun _ _ _ h => h) (Or.inl ⟨by rfl, ?gay6⟩) hHeld ?gar6
              case gay6 => (intro W hSw; (try dsimp only at hSw); go_simp; try with_reducible rfl)
              try simp only [Act.put, List.setIfInBounds_toArray, List.set_cons_zero, List.set_cons_succ]
              refine wpAnyH_take (i := 7) (oi := ⟨some 38, _, _, _, _, _⟩) (v := ?gav7) rfl (by kernel_rfl) (by kernel_rfl) (by kernel_rfl) (fun _ _ _ h => h) (Or.inl ⟨by rfl, ?gay7⟩) hHeld ?gar7
              case gay7 => (intro W hSw; (try dsimp only at hSw); go_simp; try with_reducible rfl)
              try simp only [Act.put, List.setIfInBounds_toArray, List.set_cons_zero, List.set_cons_succ]
              refine wpAnyH_take (i := 8) (oi := ⟨some 39, _, _, _, _, _⟩) (v := ?gav8) rfl (by kernel_rfl) (by kernel_rfl) (by kernel_rfl) (fun _ _ _ h => h) (Or.inl ⟨by rfl, ?gay8⟩) hHeld ?gar8
              case gay8 => (intro W hSw; (try dsimp only at hSw); go_simp; try with_reducible rfl)
              try simp only [Act.put, List.setIfInBounds_toArray, List.set_cons_zero, List.set_cons_succ]
              refine wpAnyH_take (i := 9) (oi := ⟨some 40, _, _, _, _, _⟩) (v := ?gav9) rfl (by kernel_rfl) (by kernel_rfl) (by kernel_rfl) (fun _ _ _ h => h) (Or.inl ⟨by rfl, ?gay9⟩) hHeld ?gar9
              case gay9 => (intro W hSw; (try dsimp only at hSw); go_simp; try with_reducible rfl)
              try simp only [Act.put, List.setIfInBounds_toArray, List.set_cons_zero, List.set_cons_succ]
              refine wpAnyH_take (i := 10) (oi := ⟨some 41, _, _, _, _, _⟩) (v := ?gav10) rfl (by kernel_rfl) (by kernel_rfl) (by kernel_rfl) (fun _ _ _ h => h) (Or.inl ⟨by rfl, ?gay10⟩) hHeld ?gar10
              case gay10 => (intro W hSw; (try dsimp only at hSw); go_simp; try with_reducible rfl)
              try simp only [Act.put, List.setIfInBounds_toArray, List.set_cons_zero, List.set_cons_succ]
              refine wpAnyH_take (i := 11) (oi := ⟨some 42, _, _, _, _, _⟩) (v := ?gav11) rfl (by kernel_rfl) (by kernel_rfl) (by kernel_rfl) (fun _ _ _ h => h) (Or.inl ⟨by rfl, ?gay11⟩) hHeld ?gar11
              case gay11 => (intro W hSw; (try dsimp only at hSw); go_simp; try with_reducible rfl)
              try simp only [Act.put, List.setIfInBounds_toArray, List.set_cons_zero, List.set_cons_succ]
              refine wpAnyH_ready (rs := [4]) (by kernel_rfl) (by simp) ?_
              refine AllReadyH.cons (o := ⟨some 35, _, _, _, _, _⟩) rfl (fun K hK => ?_) AllReadyH.nil
              go_simp
              go_at_call 62; refine (HSQ.out _).mono ?_; rintro E wn ⟨rfl, hb⟩
              refine hK.out _ _ (n8_below hb hqx hpx hgx hHeld) (fun hHeld => ?_)
              clear hK K
              try simp only [Act.put, List.setIfInBounds_toArray, List.set_cons_zero, List.set_cons_succ]
              refine wpAnyH_take (i := 12) (oi := ⟨some 43, _, _, _, _, _⟩) (v := ?gav12) rfl (by kernel_rfl) (by kernel_rfl) (by kernel_rfl) (fun _ _ _ h => h) (Or.inl ⟨by rfl, ?gay12⟩) hHeld ?gar12
              case gay12 => (intro W hSw; (try dsimp only at hSw); go_simp; try with_reducible rfl)
              try simp only [Act.put, List.setIfInBounds_toArray, List.set_cons_zero, List.set_cons_succ]
              refine wpAnyH_take (i := 13) (oi := ⟨some 44, _, _, _, _, _⟩) (v := ?gav13) rfl (by kernel_rfl) (by kernel_rfl) (by kernel_rfl) (fun _ _ _ h => h) (Or.inl ⟨by rfl, ?gay13⟩) hHeld ?gar13
              case gay13 => (intro W hSw; (try dsimp only at hSw); go_simp; try with_reducible rfl)
              try simp only [Act.put, List.setIfInBounds_toArray, List.set_cons_zero, List.set_cons_succ]
              refine wpAnyH_take (i := 14) (oi := ⟨some 45, _, _, _, _, _⟩) (v := ?gav14) rfl (by kernel_rfl) (by kernel_rfl) (by kernel_rfl) (fun _ _ _ h => h) (Or.inl ⟨by rfl, ?gay14⟩) hHeld ?gar14
              case gay14 => (intro W hSw; (try dsimp only at hSw); go_simp; try with_reducible rfl)
              try simp only [Act.put, List.setIfInBounds_toArray, List.set_cons_zero, List.set_cons_succ]
              refine wpAnyH_take (i := 15) (oi := ⟨some 46, _, _, _, _, _⟩) (v := ?gav15) rfl (by kernel_rfl) (by kernel_rfl) (by kernel_rfl) (fun _ _ _ h => h) (Or.inl ⟨by rfl, ?gay15⟩) hHeld ?gar15
              case gay15 => (intro W hSw; (try dsimp only at hSw); go_simp; try with_reducible rfl)
              try simp only [Act.put, List.setIfInBounds_toArray, List.set_cons_zero, List.set_cons_succ]
              refine wpAnyH_take (i := 16) (oi := ⟨some 47, _, _, _, _, _⟩) (v := ?gav16) rfl (by kernel_rfl) (by kernel_rfl) (by kernel_rfl) (fun _ _ _ h => h) (Or.inl ⟨by rfl, ?gay16⟩) hHeld ?gar16
              case gay16 => (intro W hSw; (try dsimp only at hSw); go_simp; try with_reducible rfl)
              try simp only [Act.put, List.setIfInBounds_toArray, List.set_cons_zero, List.set_cons_succ]
              refine wpAnyH_take (i := 17) (oi := ⟨some 48, _, _, _, _, _⟩) (v := ?gav17) rfl (by kernel_rfl) (by kernel_rfl) (by kernel_rfl) (fun _ _ _ h => h) (Or.inl ⟨by rfl, ?gay17⟩) hHeld ?gar17
              case gay17 => (intro W hSw; (try dsimp only at hSw); go_simp; try with_reducible rfl)
              try simp only [Act.put, List.setIfInBounds_toArray, List.set_cons_zero, List.set_cons_succ]
              refine wpAnyH_take (i := 18) (oi := ⟨some 49, _, _, _, _, _⟩) (v := ?gav18) rfl (by kernel_rfl) (by kernel_rfl) (by kernel_rfl) (fun _ _ _ h => h) (Or.inl ⟨by rfl, ?gay18⟩) hHeld ?gar18
              case gay18 => (intro W hSw; (try dsimp only at hSw); go_simp; try with_reducible rfl)
              try simp only [Act.put, List.setIfInBounds_toArray, List.set_cons_zero, List.set_cons_succ]
              refine wpAnyH_take (i := 19) (oi := ⟨some 50, _, _, _, _, _⟩) (v := ?gav19) rfl (by kernel_rfl) (by kernel_rfl) (by kernel_rfl) (fun _ _ _ h => h) (Or.inl ⟨by rfl, ?gay19⟩) hHeld ?gar19
              case gay19 => (intro W hSw; (try dsimp only at hSw); go_simp; try with_reducible rfl)
              try simp only [Act.put, List.setIfInBounds_toArray, List.set_cons_zero, List.set_cons_succ]
              refine wpAnyH_take (i := 20) (oi := ⟨some 51, _, _, _, _, _⟩) (v := ?gav20) rfl (by kernel_rfl) (by kernel_rfl) (by kernel_rfl) (fun _ _ _ h => h) (Or.inl ⟨by rfl, ?gay20⟩) hHeld ?gar20
              case gay20 => (intro W hSw; (try dsimp only at hSw); go_simp; try with_reducible rfl)
              try simp only [Act.put, List.setIfInBounds_toArray, List.set_cons_zero, List.set_cons_succ]
              refine wpAnyH_take (i := 21) (oi := ⟨some 52, _, _, _, _, _⟩) (v := ?gav21) rfl (by kernel_rfl) (by kernel_rfl) (by kernel_rfl) (fun _ _ _ h => h) (Or.inl ⟨by rfl, ?gay21⟩) hHeld ?gar21
              case gay21 => (intro W hSw; (try dsimp only at hSw); go_simp; try with_reducible rfl)
              try simp only [Act.put, List.setIfInBounds_toArray, List.set_cons_zero, List.set_cons_succ]
              refine wpAnyH_take (i := 22) (oi := ⟨some 53, _, _, _, _, _⟩) (v := ?gav22) rfl (by kernel_rfl) (by kernel_rfl) (by kernel_rfl) (fun _ _ _ h => h) (Or.inl ⟨by rfl, ?gay22⟩) hHeld ?gar22
              case gay22 => (intro W hSw; (try dsimp only at hSw); go_simp; try with_reducible rfl)
              try simp only [Act.put, List.setIfInBounds_toArray, List.set_cons_zero, List.set_cons_succ]
              refine wpAnyH_take (i := 23) (oi := ⟨some 54, _, _, _, _, _⟩) (v := ?gav23) rfl (by kernel_rfl) (by kernel_rfl) (by kernel_rfl) (fun _ _ _ h => h) (Or.inl ⟨by rfl, ?gay23⟩) hHeld ?gar23
              case gay23 => (intro W hSw; (try dsimp only at hSw); go_simp; try with_reducible rfl)
              try simp only [Act.put, List.setIfInBounds_toArray, List.set_cons_zero, List.set_cons_succ]
              refine wpAnyH_take (i := 24) (oi := ⟨some 55, _, _, _, _, _⟩) (v := ?gav24) rfl (by kernel_rfl) (by kernel_rfl) (by kernel_rfl) (fun _ _ _ h => h) (Or.inl ⟨by rfl, ?gay24⟩) hHeld ?gar24
              case gay24 => (intro W hSw; (try dsimp only at hSw); go_simp; try with_reducible rfl)
              try simp only [Act.put, List.setIfInBounds_toArray, List.set_cons_zero, List.set_cons_succ]
              refine wpAnyH_take (i := 25) (oi := ⟨some 56, _, _, _, _, _⟩) (v := ?gav25) rfl (by kernel_rfl) (by kernel_rfl) (by kernel_rfl) (fun _ _ _ h => h) (Or.inl ⟨by rfl, ?gay25⟩) hHeld ?gar25
              case gay25 => (intro W hSw; (try dsimp only at hSw); go_simp; try with_reducible rfl)
              try simp only [Act.put, List.setIfInBounds_toArray, List.set_cons_zero, List.set_cons_succ]
              refine wpAnyH_take (i := 26) (oi := ⟨some 57, _, _, _, _, _⟩) (v := ?gav26) rfl (by kernel_rfl) (by kernel_rfl) (by kernel_rfl) (fun _ _ _ h => h) (Or.inl ⟨by rfl, ?gay26⟩) hHeld ?gar26
              case gay26 => (intro W hSw; (try dsimp only at hSw); go_simp; try with_reducible rfl)
              try simp only [Act.put, List.setIfInBounds_toArray, List.set_cons_zero, List.set_cons_succ]
              refine wpAnyH_take (i := 27) (oi := ⟨some 58, _, _, _, _, _⟩) (v := ?gav27) rfl (by kernel_rfl) (by kernel_rfl) (by kernel_rfl) (fun _ _ _ h => h) (Or.inl ⟨by rfl, ?gay27⟩) hHeld ?gar27
              case gay27 => (intro W hSw; (try dsimp only at hSw); go_simp; try with_reducible rfl)
              try simp only [Act.put, List.setIfInBounds_toArray, List.set_cons_zero, List.set_cons_succ]
              refine wpAnyH_take (i := 28) (oi := ⟨some 59, _, _, _, _, _⟩) (v := ?gav28) rfl (by kernel_rfl) (by kernel_rfl) (by kernel_rfl) (fun _ _ _ h => h) (Or.inl ⟨by rfl, ?gay28⟩) hHeld ?gar28
              case gay28 => (intro W hSw; (try dsimp only at hSw); go_simp; try with_reducible rfl)
              try simp only [Act.put, List.setIfInBounds_toArray, List.set_cons_zero, List.set_cons_succ]
              refine wpAnyH_take (i := 29) (oi := ⟨some 60, _, _, _, _, _⟩) (v := ?gav29) rfl (by kernel_rfl) (by kernel_rfl) (by kernel_rfl) (fun _ _ _ h => h) (Or.inl ⟨by rfl, ?gay29⟩) hHeld ?gar29
              case gay29 => (intro W hSw; (try dsimp only at hSw); go_simp; try with_reducible rfl)
              try simp only [Act.put, List.setIfInBounds_toArray, List.set_cons_zero, List.set_cons_succ]
              refine wpAnyH_done (by kernel_rfl) ?_ _
              have HBH := Lib.hid (show Below wr.heap.size wr wn from HBX.out.trans (hHeld.1.mono HBX.out.size))
              have HGn := Lib.hid ((hHeld.1.block g hgx).trans HGx.out)
              have HYn := Lib.hid ((hHeld.1.block p hpx).trans HYx.out)
              have gn0 : wn.cell? ⟨g, 0, none⟩ = some (.string t) := cell_of_row wn g 0 _ 71 (0, 0) HGn.out
              have gn1 : wn.cell? ⟨g, 1, none⟩ = some (.int .i64 lv) := cell_of_row wn g 1 _ 71 (0, 0) HGn.out
              have HOn := Lib.hid (own_below HO.out HBH.out (Nat.le_refl _))
              have hzn : wr.heap.size ≤ wn.heap.size := HBH.out.size
              have hpn : p < wn.heap.size := Nat.lt_of_lt_of_le hpx hHeld.1.size
              have HAL := Lib.hid (fun W => alert_any t lv a b W)
              have hmn : m ≤ 1100 := by have := HML.out; omega
              clear hHeld hs0
              go_wp2_with (first
                | (go_at_call 107; go_loud (refine (HAL.out _).mono ?_; rintro E w5 ⟨rfl, hb5⟩; have HO5 := Lib.hid (own_below HOn.out hb5 (Nat.le_refl _)); have HB5 := Lib.hid (HBH.out.trans (hb5.mono hzn)); have HY5 := Lib.hid ((hb5.block p hpn).trans HYn.out); have hz5 := hb5.size; clear hb5))
                | (at_builtin; go_loud (refine wpList_append_oneN w5 w5.heap.size rfl #[.string t, .int .i64 lv, .int .i64 (a : Int), .int .i64 (b : Int)] rfl (.tmp 61) (.tmp 67) 35 rfl wb.heap.size 51 i51 (.agg #[.string ByteArray.empty, .int .i64 0, .int .i64 0, .int .i64 0]) 4 40 Try.underlying35 E0 E1 E2 E3 rfl (by decide) (.slice V m cv) m _ rfl HO5.out rfl rfl (by simp [Value.oneCell']) (by omega) (by decide) (by have := HB.out.size; omega) ?_); intro g6 cap6 w6 hv6 hg6 hat6 hlt6))
              go_roundw
              case rel =>
                refine ⟨a + 1, m + 1, some ⟨g6, 0, none⟩, cap6, by omega, by go_num, rfl, ?_, ?_, ?_, ?_⟩
                · exact Lib.hid (by rw [HST.out, ← List.append_assoc, List.length_append, HM.out]; rfl)
                · exact Lib.hid (by rw [HST.out, ← List.append_assoc, rowsV_append]; exact hv6)
                · exact Lib.hid (below_app (HB.out.trans (HB5.out.mono hzr)) (by omega) HO5.out (Nat.le_refl _) hg6)
                · exact Lib.hid (bk_app HY5.out HY.out.2 hg6 hat6)
              case measure => simp [intOf]; omega
            · have s2 : decide (mx < vert) = false := decide_eq_false hmx
              have HN2 : Hid (nearP T lat vert a b = false) := Lib.hid (by rw [hnear.out, s1, s2]; rfl)
              clear hnear hsq hmx
              rw [HN2.out, if_neg (by decide), List.append_nil] at HST
              go_wp2
              refine wp_region_held_drew (S := (fun W => Below wx.heap.size wx W ∧ W.cell? ⟨q, 3, none⟩ = some (.int .i64 x3) ∧ W.cell? ⟨q, 4, none⟩ = some (.int .i64 x4) ∧ W.cell? ⟨q, 7, none⟩ = some (.int .i64 x7) ∧ W.cell? ⟨p, 3, none⟩ = some (.int .i64 y3) ∧ W.cell? ⟨p, 4, none⟩ = some (.int .i64 y4) ∧ W.cell? ⟨p, 7, none⟩ = some (.int .i64 y7) ∧ W.cell? ⟨g, 2, none⟩ = some (.int .i64 lat) ∧ W.cell? ⟨g, 3, none⟩ = some (.int .i64 vert))) (by kernel_rfl) hs0 (fun hHeld => ?_)
              refine wpAnyH_take (i := 0) (oi := ⟨some 31, _, _, _, _, _⟩) (v := ?gbv0) rfl (by kernel_rfl) (by kernel_rfl) (by kernel_rfl) (fun _ _ _ h => h) (Or.inl ⟨by rfl, ?gby0⟩) hHeld ?gbr0
              case gby0 => (intro W hSw; (try dsimp only at hSw); go_simp; try with_reducible rfl)
              try simp only [Act.put, List.setIfInBounds_toArray, List.set_cons_zero, List.set_cons_succ]
              refine wpAnyH_take (i := 1) (oi := ⟨some 32, _, _, _, _, _⟩) (v := ?gbv1) rfl (by kernel_rfl) (by kernel_rfl) (by kernel_rfl) (fun _ _ _ h => h) (Or.inl ⟨by rfl, ?gby1⟩) hHeld ?gbr1
              case gby1 => (intro W hSw; (try dsimp only at hSw); go_simp; try with_reducible rfl)
              try simp only [Act.put, List.setIfInBounds_toArray, List.set_cons_zero, List.set_cons_succ]
              refine wpAnyH_take (i := 2) (oi := ⟨some 33, _, _, _, _, _⟩) (v := ?gbv2) rfl (by kernel_rfl) (by kernel_rfl) (by kernel_rfl) (fun _ _ _ h => h) (Or.inl ⟨by rfl, ?gby2⟩) hHeld ?gbr2
              case gby2 => (intro W hSw; (try dsimp only at hSw); go_simp; try with_reducible rfl)
              try simp only [Act.put, List.setIfInBounds_toArray, List.set_cons_zero, List.set_cons_succ]
              refine wpAnyH_take (i := 3) (oi := ⟨some 34, _, _, _, _, _⟩) (v := ?gbv3) rfl (by kernel_rfl) (by kernel_rfl) (by kernel_rfl) (fun _ _ _ h => h) (Or.inl ⟨by rfl, ?gby3⟩) hHeld ?gbr3
              case gby3 => (intro W hSw; (try dsimp only at hSw); go_simp; try with_reducible rfl)
              try simp only [Act.put, List.setIfInBounds_toArray, List.set_cons_zero, List.set_cons_succ]
              refine wpAnyH_take (i := 5) (oi := ⟨some 36, _, _, _, _, _⟩) (v := ?gbv5) rfl (by kernel_rfl) (by kernel_rfl) (by kernel_rfl) (fun _ _ _ h => h) (Or.inl ⟨by rfl, ?gby5⟩) hHeld ?gbr5
              case gby5 => (intro W hSw; (try dsimp only at hSw); go_simp; try with_reducible rfl)
              try simp only [Act.put, List.setIfInBounds_toArray, List.set_cons_zero, List.set_cons_succ]
              refine wpAnyH_take (i := 6) (oi := ⟨some 37, _, _, _, _, _⟩) (v := ?gbv6) rfl (by kernel_rfl) (by kernel_rfl) (by kernel_rfl) (fun _ _ _ h => h) (Or.inl ⟨by rfl, ?gby6⟩) hHeld ?gbr6
              case gby6 => (intro W hSw; (try dsimp only at hSw); go_simp; try with_reducible rfl)
              try simp only [Act.put, List.setIfInBounds_toArray, List.set_cons_zero, List.set_cons_succ]
              refine wpAnyH_take (i := 7) (oi := ⟨some 38, _, _, _, _, _⟩) (v := ?gbv7) rfl (by kernel_rfl) (by kernel_rfl) (by kernel_rfl) (fun _ _ _ h => h) (Or.inl ⟨by rfl, ?gby7⟩) hHeld ?gbr7
              case gby7 => (intro W hSw; (try dsimp only at hSw); go_simp; try with_reducible rfl)
              try simp only [Act.put, List.setIfInBounds_toArray, List.set_cons_zero, List.set_cons_succ]
              refine wpAnyH_take (i := 8) (oi := ⟨some 39, _, _, _, _, _⟩) (v := ?gbv8) rfl (by kernel_rfl) (by kernel_rfl) (by kernel_rfl) (fun _ _ _ h => h) (Or.inl ⟨by rfl, ?gby8⟩) hHeld ?gbr8
              case gby8 => (intro W hSw; (try dsimp only at hSw); go_simp; try with_reducible rfl)
              try simp only [Act.put, List.setIfInBounds_toArray, List.set_cons_zero, List.set_cons_succ]
              refine wpAnyH_take (i := 9) (oi := ⟨some 40, _, _, _, _, _⟩) (v := ?gbv9) rfl (by kernel_rfl) (by kernel_rfl) (by kernel_rfl) (fun _ _ _ h => h) (Or.inl ⟨by rfl, ?gby9⟩) hHeld ?gbr9
              case gby9 => (intro W hSw; (try dsimp only at hSw); go_simp; try with_reducible rfl)
              try simp only [Act.put, List.setIfInBounds_toArray, List.set_cons_zero, List.set_cons_succ]
              refine wpAnyH_take (i := 10) (oi := ⟨some 41, _, _, _, _, _⟩) (v := ?gbv10) rfl (by kernel_rfl) (by kernel_rfl) (by kernel_rfl) (fun _ _ _ h => h) (Or.inl ⟨by rfl, ?gby10⟩) hHeld ?gbr10
              case gby10 => (intro W hSw; (try dsimp only at hSw); go_simp; try with_reducible rfl)
              try simp only [Act.put, List.setIfInBounds_toArray, List.set_cons_zero, List.set_cons_succ]
              refine wpAnyH_take (i := 11) (oi := ⟨some 42, _, _, _, _, _⟩) (v := ?gbv11) rfl (by kernel_rfl) (by kernel_rfl) (by kernel_rfl) (fun _ _ _ h => h) (Or.inl ⟨by rfl, ?gby11⟩) hHeld ?gbr11
              case gby11 => (intro W hSw; (try dsimp only at hSw); go_simp; try with_reducible rfl)
              try simp only [Act.put, List.setIfInBounds_toArray, List.set_cons_zero, List.set_cons_succ]
              refine wpAnyH_ready (rs := [4]) (by kernel_rfl) (by simp) ?_
              refine AllReadyH.cons (o := ⟨some 35, _, _, _, _, _⟩) rfl (fun K hK => ?_) AllReadyH.nil
              go_simp
              go_at_call 62; refine (HSQ.out _).mono ?_; rintro E wn ⟨rfl, hb⟩
              refine hK.out _ _ (n8_below hb hqx hpx hgx hHeld) (fun hHeld => ?_)
              clear hK K
              try simp only [Act.put, List.setIfInBounds_toArray, List.set_cons_zero, List.set_cons_succ]
              refine wpAnyH_take (i := 12) (oi := ⟨some 43, _, _, _, _, _⟩) (v := ?gbv12) rfl (by kernel_rfl) (by kernel_rfl) (by kernel_rfl) (fun _ _ _ h => h) (Or.inl ⟨by rfl, ?gby12⟩) hHeld ?gbr12
              case gby12 => (intro W hSw; (try dsimp only at hSw); go_simp; try with_reducible rfl)
              try simp only [Act.put, List.setIfInBounds_toArray, List.set_cons_zero, List.set_cons_succ]
              refine wpAnyH_take (i := 13) (oi := ⟨some 44, _, _, _, _, _⟩) (v := ?gbv13) rfl (by kernel_rfl) (by kernel_rfl) (by kernel_rfl) (fun _ _ _ h => h) (Or.inl ⟨by rfl, ?gby13⟩) hHeld ?gbr13
              case gby13 => (intro W hSw; (try dsimp only at hSw); go_simp; try with_reducible rfl)
              try simp only [Act.put, List.setIfInBounds_toArray, List.set_cons_zero, List.set_cons_succ]
              refine wpAnyH_take (i := 14) (oi := ⟨some 45, _, _, _, _, _⟩) (v := ?gbv14) rfl (by kernel_rfl) (by kernel_rfl) (by kernel_rfl) (fun _ _ _ h => h) (Or.inl ⟨by rfl, ?gby14⟩) hHeld ?gbr14
              case gby14 => (intro W hSw; (try dsimp only at hSw); go_simp; try with_reducible rfl)
              try simp only [Act.put, List.setIfInBounds_toArray, List.set_cons_zero, List.set_cons_succ]
              refine wpAnyH_take (i := 15) (oi := ⟨some 46, _, _, _, _, _⟩) (v := ?gbv15) rfl (by kernel_rfl) (by kernel_rfl) (by kernel_rfl) (fun _ _ _ h => h) (Or.inl ⟨by rfl, ?gby15⟩) hHeld ?gbr15
              case gby15 => (intro W hSw; (try dsimp only at hSw); go_simp; try with_reducible rfl)
              try simp only [Act.put, List.setIfInBounds_toArray, List.set_cons_zero, List.set_cons_succ]
              refine wpAnyH_take (i := 16) (oi := ⟨some 47, _, _, _, _, _⟩) (v := ?gbv16) rfl (by kernel_rfl) (by kernel_rfl) (by kernel_rfl) (fun _ _ _ h => h) (Or.inl ⟨by rfl, ?gby16⟩) hHeld ?gbr16
              case gby16 => (intro W hSw; (try dsimp only at hSw); go_simp; try with_reducible rfl)
              try simp only [Act.put, List.setIfInBounds_toArray, List.set_cons_zero, List.set_cons_succ]
              refine wpAnyH_take (i := 17) (oi := ⟨some 48, _, _, _, _, _⟩) (v := ?gbv17) rfl (by kernel_rfl) (by kernel_rfl) (by kernel_rfl) (fun _ _ _ h => h) (Or.inl ⟨by rfl, ?gby17⟩) hHeld ?gbr17
              case gby17 => (intro W hSw; (try dsimp only at hSw); go_simp; try with_reducible rfl)
              try simp only [Act.put, List.setIfInBounds_toArray, List.set_cons_zero, List.set_cons_succ]
              refine wpAnyH_take (i := 18) (oi := ⟨some 49, _, _, _, _, _⟩) (v := ?gbv18) rfl (by kernel_rfl) (by kernel_rfl) (by kernel_rfl) (fun _ _ _ h => h) (Or.inl ⟨by rfl, ?gby18⟩) hHeld ?gbr18
              case gby18 => (intro W hSw; (try dsimp only at hSw); go_simp; try with_reducible rfl)
              try simp only [Act.put, List.setIfInBounds_toArray, List.set_cons_zero, List.set_cons_succ]
              refine wpAnyH_take (i := 19) (oi := ⟨some 50, _, _, _, _, _⟩) (v := ?gbv19) rfl (by kernel_rfl) (by kernel_rfl) (by kernel_rfl) (fun _ _ _ h => h) (Or.inl ⟨by rfl, ?gby19⟩) hHeld ?gbr19
              case gby19 => (intro W hSw; (try dsimp only at hSw); go_simp; try with_reducible rfl)
              try simp only [Act.put, List.setIfInBounds_toArray, List.set_cons_zero, List.set_cons_succ]
              refine wpAnyH_take (i := 20) (oi := ⟨some 51, _, _, _, _, _⟩) (v := ?gbv20) rfl (by kernel_rfl) (by kernel_rfl) (by kernel_rfl) (fun _ _ _ h => h) (Or.inl ⟨by rfl, ?gby20⟩) hHeld ?gbr20
              case gby20 => (intro W hSw; (try dsimp only at hSw); go_simp; try with_reducible rfl)
              try simp only [Act.put, List.setIfInBounds_toArray, List.set_cons_zero, List.set_cons_succ]
              refine wpAnyH_take (i := 21) (oi := ⟨some 52, _, _, _, _, _⟩) (v := ?gbv21) rfl (by kernel_rfl) (by kernel_rfl) (by kernel_rfl) (fun _ _ _ h => h) (Or.inl ⟨by rfl, ?gby21⟩) hHeld ?gbr21
              case gby21 => (intro W hSw; (try dsimp only at hSw); go_simp; try with_reducible rfl)
              try simp only [Act.put, List.setIfInBounds_toArray, List.set_cons_zero, List.set_cons_succ]
              refine wpAnyH_take (i := 22) (oi := ⟨some 53, _, _, _, _, _⟩) (v := ?gbv22) rfl (by kernel_rfl) (by kernel_rfl) (by kernel_rfl) (fun _ _ _ h => h) (Or.inl ⟨by rfl, ?gby22⟩) hHeld ?gbr22
              case gby22 => (intro W hSw; (try dsimp only at hSw); go_simp; try with_reducible rfl)
              try simp only [Act.put, List.setIfInBounds_toArray, List.set_cons_zero, List.set_cons_succ]
              refine wpAnyH_take (i := 23) (oi := ⟨some 54, _, _, _, _, _⟩) (v := ?gbv23) rfl (by kernel_rfl) (by kernel_rfl) (by kernel_rfl) (fun _ _ _ h => h) (Or.inl ⟨by rfl, ?gby23⟩) hHeld ?gbr23
              case gby23 => (intro W hSw; (try dsimp only at hSw); go_simp; try with_reducible rfl)
              try simp only [Act.put, List.setIfInBounds_toArray, List.set_cons_zero, List.set_cons_succ]
              refine wpAnyH_take (i := 24) (oi := ⟨some 55, _, _, _, _, _⟩) (v := ?gbv24) rfl (by kernel_rfl) (by kernel_rfl) (by kernel_rfl) (fun _ _ _ h => h) (Or.inl ⟨by rfl, ?gby24⟩) hHeld ?gbr24
              case gby24 => (intro W hSw; (try dsimp only at hSw); go_simp; try with_reducible rfl)
              try simp only [Act.put, List.setIfInBounds_toArray, List.set_cons_zero, List.set_cons_succ]
              refine wpAnyH_take (i := 25) (oi := ⟨some 56, _, _, _, _, _⟩) (v := ?gbv25) rfl (by kernel_rfl) (by kernel_rfl) (by kernel_rfl) (fun _ _ _ h => h) (Or.inl ⟨by rfl, ?gby25⟩) hHeld ?gbr25
              case gby25 => (intro W hSw; (try dsimp only at hSw); go_simp; try with_reducible rfl)
              try simp only [Act.put, List.setIfInBounds_toArray, List.set_cons_zero, List.set_cons_succ]
              refine wpAnyH_take (i := 26) (oi := ⟨some 57, _, _, _, _, _⟩) (v := ?gbv26) rfl (by kernel_rfl) (by kernel_rfl) (by kernel_rfl) (fun _ _ _ h => h) (Or.inl ⟨by rfl, ?gby26⟩) hHeld ?gbr26
              case gby26 => (intro W hSw; (try dsimp only at hSw); go_simp; try with_reducible rfl)
              try simp only [Act.put, List.setIfInBounds_toArray, List.set_cons_zero, List.set_cons_succ]
              refine wpAnyH_take (i := 27) (oi := ⟨some 58, _, _, _, _, _⟩) (v := ?gbv27) rfl (by kernel_rfl) (by kernel_rfl) (by kernel_rfl) (fun _ _ _ h => h) (Or.inl ⟨by rfl, ?gby27⟩) hHeld ?gbr27
              case gby27 => (intro W hSw; (try dsimp only at hSw); go_simp; try with_reducible rfl)
              try simp only [Act.put, List.setIfInBounds_toArray, List.set_cons_zero, List.set_cons_succ]
              refine wpAnyH_take (i := 28) (oi := ⟨some 59, _, _, _, _, _⟩) (v := ?gbv28) rfl (by kernel_rfl) (by kernel_rfl) (by kernel_rfl) (fun _ _ _ h => h) (Or.inl ⟨by rfl, ?gby28⟩) hHeld ?gbr28
              case gby28 => (intro W hSw; (try dsimp only at hSw); go_simp; try with_reducible rfl)
              try simp only [Act.put, List.setIfInBounds_toArray, List.set_cons_zero, List.set_cons_succ]
              refine wpAnyH_take (i := 29) (oi := ⟨some 60, _, _, _, _, _⟩) (v := ?gbv29) rfl (by kernel_rfl) (by kernel_rfl) (by kernel_rfl) (fun _ _ _ h => h) (Or.inl ⟨by rfl, ?gby29⟩) hHeld ?gbr29
              case gby29 => (intro W hSw; (try dsimp only at hSw); go_simp; try with_reducible rfl)
              try simp only [Act.put, List.setIfInBounds_toArray, List.set_cons_zero, List.set_cons_succ]
              refine wpAnyH_done (by kernel_rfl) ?_ _
              have HBH := Lib.hid (show Below wr.heap.size wr wn from HBX.out.trans (hHeld.1.mono HBX.out.size))
              have HYn := Lib.hid ((hHeld.1.block p hpx).trans HYx.out)
              clear hHeld hs0
              go_wp2
              go_roundw
              case rel => exact ⟨a + 1, m, V, cv, by omega, by go_num, rfl, by rw [HST.out]; exact HM, by rw [HST.out]; exact Lib.hid (own_below HO.out HBH.out (Nat.le_refl _)), Lib.hid (HB.out.trans (HBH.out.mono hzr)), Lib.hid ⟨HYn.out, HY.out.2⟩⟩
              case measure => simp [intOf]; omega
          · have s1 : decide (sq < latt) = false := decide_eq_false hsq
            have HN2 : Hid (nearP T lat vert a b = false) := Lib.hid (by rw [hnear.out, s1]; rfl)
            clear hnear hsq
            rw [HN2.out, if_neg (by decide), List.append_nil] at HST
            go_wp2
            refine wp_region_held_drew (S := (fun W => Below wx.heap.size wx W ∧ W.cell? ⟨q, 3, none⟩ = some (.int .i64 x3) ∧ W.cell? ⟨q, 4, none⟩ = some (.int .i64 x4) ∧ W.cell? ⟨q, 7, none⟩ = some (.int .i64 x7) ∧ W.cell? ⟨p, 3, none⟩ = some (.int .i64 y3) ∧ W.cell? ⟨p, 4, none⟩ = some (.int .i64 y4) ∧ W.cell? ⟨p, 7, none⟩ = some (.int .i64 y7) ∧ W.cell? ⟨g, 2, none⟩ = some (.int .i64 lat) ∧ W.cell? ⟨g, 3, none⟩ = some (.int .i64 vert))) (by kernel_rfl) hs0 (fun hHeld => ?_)
            refine wpAnyH_take (i := 0) (oi := ⟨some 31, _, _, _, _, _⟩) (v := ?gcv0) rfl (by kernel_rfl) (by kernel_rfl) (by kernel_rfl) (fun _ _ _ h => h) (Or.inl ⟨by rfl, ?gcy0⟩) hHeld ?gcr0
            case gcy0 => (intro W hSw; (try dsimp only at hSw); go_simp; try with_reducible rfl)
            try simp only [Act.put, List.setIfInBounds_toArray, List.set_cons_zero, List.set_cons_succ]
            refine wpAnyH_take (i := 1) (oi := ⟨some 32, _, _, _, _, _⟩) (v := ?gcv1) rfl (by kernel_rfl) (by kernel_rfl) (by kernel_rfl) (fun _ _ _ h => h) (Or.inl ⟨by rfl, ?gcy1⟩) hHeld ?gcr1
            case gcy1 => (intro W hSw; (try dsimp only at hSw); go_simp; try with_reducible rfl)
            try simp only [Act.put, List.setIfInBounds_toArray, List.set_cons_zero, List.set_cons_succ]
            refine wpAnyH_take (i := 2) (oi := ⟨some 33, _, _, _, _, _⟩) (v := ?gcv2) rfl (by kernel_rfl) (by kernel_rfl) (by kernel_rfl) (fun _ _ _ h => h) (Or.inl ⟨by rfl, ?gcy2⟩) hHeld ?gcr2
            case gcy2 => (intro W hSw; (try dsimp only at hSw); go_simp; try with_reducible rfl)
            try simp only [Act.put, List.setIfInBounds_toArray, List.set_cons_zero, List.set_cons_succ]
            refine wpAnyH_take (i := 3) (oi := ⟨some 34, _, _, _, _, _⟩) (v := ?gcv3) rfl (by kernel_rfl) (by kernel_rfl) (by kernel_rfl) (fun _ _ _ h => h) (Or.inl ⟨by rfl, ?gcy3⟩) hHeld ?gcr3
            case gcy3 => (intro W hSw; (try dsimp only at hSw); go_simp; try with_reducible rfl)
            try simp only [Act.put, List.setIfInBounds_toArray, List.set_cons_zero, List.set_cons_succ]
            refine wpAnyH_take (i := 5) (oi := ⟨some 36, _, _, _, _, _⟩) (v := ?gcv5) rfl (by kernel_rfl) (by kernel_rfl) (by kernel_rfl) (fun _ _ _ h => h) (Or.inl ⟨by rfl, ?gcy5⟩) hHeld ?gcr5
            case gcy5 => (intro W hSw; (try dsimp only at hSw); go_simp; try with_reducible rfl)
            try simp only [Act.put, List.setIfInBounds_toArray, List.set_cons_zero, List.set_cons_succ]
            refine wpAnyH_take (i := 6) (oi := ⟨some 37, _, _, _, _, _⟩) (v := ?gcv6) rfl (by kernel_rfl) (by kernel_rfl) (by kernel_rfl) (fun _ _ _ h => h) (Or.inl ⟨by rfl, ?gcy6⟩) hHeld ?gcr6
            case gcy6 => (intro W hSw; (try dsimp only at hSw); go_simp; try with_reducible rfl)
            try simp only [Act.put, List.setIfInBounds_toArray, List.set_cons_zero, List.set_cons_succ]
            refine wpAnyH_take (i := 7) (oi := ⟨some 38, _, _, _, _, _⟩) (v := ?gcv7) rfl (by kernel_rfl) (by kernel_rfl) (by kernel_rfl) (fun _ _ _ h => h) (Or.inl ⟨by rfl, ?gcy7⟩) hHeld ?gcr7
            case gcy7 => (intro W hSw; (try dsimp only at hSw); go_simp; try with_reducible rfl)
            try simp only [Act.put, List.setIfInBounds_toArray, List.set_cons_zero, List.set_cons_succ]
            refine wpAnyH_take (i := 8) (oi := ⟨some 39, _, _, _, _, _⟩) (v := ?gcv8) rfl (by kernel_rfl) (by kernel_rfl) (by kernel_rfl) (fun _ _ _ h => h) (Or.inl ⟨by rfl, ?gcy8⟩) hHeld ?gcr8
            case gcy8 => (intro W hSw; (try dsimp only at hSw); go_simp; try with_reducible rfl)
            try simp only [Act.put, List.setIfInBounds_toArray, List.set_cons_zero, List.set_cons_succ]
            refine wpAnyH_take (i := 9) (oi := ⟨some 40, _, _, _, _, _⟩) (v := ?gcv9) rfl (by kernel_rfl) (by kernel_rfl) (by kernel_rfl) (fun _ _ _ h => h) (Or.inl ⟨by rfl, ?gcy9⟩) hHeld ?gcr9
            case gcy9 => (intro W hSw; (try dsimp only at hSw); go_simp; try with_reducible rfl)
            try simp only [Act.put, List.setIfInBounds_toArray, List.set_cons_zero, List.set_cons_succ]
            refine wpAnyH_take (i := 10) (oi := ⟨some 41, _, _, _, _, _⟩) (v := ?gcv10) rfl (by kernel_rfl) (by kernel_rfl) (by kernel_rfl) (fun _ _ _ h => h) (Or.inl ⟨by rfl, ?gcy10⟩) hHeld ?gcr10
            case gcy10 => (intro W hSw; (try dsimp only at hSw); go_simp; try with_reducible rfl)
            try simp only [Act.put, List.setIfInBounds_toArray, List.set_cons_zero, List.set_cons_succ]
            refine wpAnyH_take (i := 11) (oi := ⟨some 42, _, _, _, _, _⟩) (v := ?gcv11) rfl (by kernel_rfl) (by kernel_rfl) (by kernel_rfl) (fun _ _ _ h => h) (Or.inl ⟨by rfl, ?gcy11⟩) hHeld ?gcr11
            case gcy11 => (intro W hSw; (try dsimp only at hSw); go_simp; try with_reducible rfl)
            try simp only [Act.put, List.setIfInBounds_toArray, List.set_cons_zero, List.set_cons_succ]
            refine wpAnyH_ready (rs := [4]) (by kernel_rfl) (by simp) ?_
            refine AllReadyH.cons (o := ⟨some 35, _, _, _, _, _⟩) rfl (fun K hK => ?_) AllReadyH.nil
            go_simp
            go_at_call 62; refine (HSQ.out _).mono ?_; rintro E wn ⟨rfl, hb⟩
            refine hK.out _ _ (n8_below hb hqx hpx hgx hHeld) (fun hHeld => ?_)
            clear hK K
            try simp only [Act.put, List.setIfInBounds_toArray, List.set_cons_zero, List.set_cons_succ]
            refine wpAnyH_take (i := 12) (oi := ⟨some 43, _, _, _, _, _⟩) (v := ?gcv12) rfl (by kernel_rfl) (by kernel_rfl) (by kernel_rfl) (fun _ _ _ h => h) (Or.inl ⟨by rfl, ?gcy12⟩) hHeld ?gcr12
            case gcy12 => (intro W hSw; (try dsimp only at hSw); go_simp; try with_reducible rfl)
            try simp only [Act.put, List.setIfInBounds_toArray, List.set_cons_zero, List.set_cons_succ]
            refine wpAnyH_take (i := 13) (oi := ⟨some 44, _, _, _, _, _⟩) (v := ?gcv13) rfl (by kernel_rfl) (by kernel_rfl) (by kernel_rfl) (fun _ _ _ h => h) (Or.inl ⟨by rfl, ?gcy13⟩) hHeld ?gcr13
            case gcy13 => (intro W hSw; (try dsimp only at hSw); go_simp; try with_reducible rfl)
            try simp only [Act.put, List.setIfInBounds_toArray, List.set_cons_zero, List.set_cons_succ]
            refine wpAnyH_take (i := 14) (oi := ⟨some 45, _, _, _, _, _⟩) (v := undef) rfl (by kernel_rfl) (by kernel_rfl) (by kernel_rfl) (fun _ _ _ h => h) (Or.inr ⟨by rfl, rfl⟩) hHeld ?_
            try simp only [Act.put, List.setIfInBounds_toArray, List.set_cons_zero, List.set_cons_succ]
            refine wpAnyH_take (i := 15) (oi := ⟨some 46, _, _, _, _, _⟩) (v := undef) rfl (by kernel_rfl) (by kernel_rfl) (by kernel_rfl) (fun _ _ _ h => h) (Or.inr ⟨by rfl, rfl⟩) hHeld ?_
            try simp only [Act.put, List.setIfInBounds_toArray, List.set_cons_zero, List.set_cons_succ]
            refine wpAnyH_take (i := 16) (oi := ⟨some 47, _, _, _, _, _⟩) (v := undef) rfl (by kernel_rfl) (by kernel_rfl) (by kernel_rfl) (fun _ _ _ h => h) (Or.inr ⟨by rfl, rfl⟩) hHeld ?_
            try simp only [Act.put, List.setIfInBounds_toArray, List.set_cons_zero, List.set_cons_succ]
            refine wpAnyH_take (i := 17) (oi := ⟨some 48, _, _, _, _, _⟩) (v := undef) rfl (by kernel_rfl) (by kernel_rfl) (by kernel_rfl) (fun _ _ _ h => h) (Or.inr ⟨by rfl, rfl⟩) hHeld ?_
            try simp only [Act.put, List.setIfInBounds_toArray, List.set_cons_zero, List.set_cons_succ]
            refine wpAnyH_take (i := 18) (oi := ⟨some 49, _, _, _, _, _⟩) (v := undef) rfl (by kernel_rfl) (by kernel_rfl) (by kernel_rfl) (fun _ _ _ h => h) (Or.inr ⟨by rfl, rfl⟩) hHeld ?_
            try simp only [Act.put, List.setIfInBounds_toArray, List.set_cons_zero, List.set_cons_succ]
            refine wpAnyH_take (i := 19) (oi := ⟨some 50, _, _, _, _, _⟩) (v := undef) rfl (by kernel_rfl) (by kernel_rfl) (by kernel_rfl) (fun _ _ _ h => h) (Or.inr ⟨by rfl, rfl⟩) hHeld ?_
            try simp only [Act.put, List.setIfInBounds_toArray, List.set_cons_zero, List.set_cons_succ]
            refine wpAnyH_take (i := 20) (oi := ⟨some 51, _, _, _, _, _⟩) (v := undef) rfl (by kernel_rfl) (by kernel_rfl) (by kernel_rfl) (fun _ _ _ h => h) (Or.inr ⟨by rfl, rfl⟩) hHeld ?_
            try simp only [Act.put, List.setIfInBounds_toArray, List.set_cons_zero, List.set_cons_succ]
            refine wpAnyH_take (i := 21) (oi := ⟨some 52, _, _, _, _, _⟩) (v := undef) rfl (by kernel_rfl) (by kernel_rfl) (by kernel_rfl) (fun _ _ _ h => h) (Or.inr ⟨by rfl, rfl⟩) hHeld ?_
            try simp only [Act.put, List.setIfInBounds_toArray, List.set_cons_zero, List.set_cons_succ]
            refine wpAnyH_take (i := 22) (oi := ⟨some 53, _, _, _, _, _⟩) (v := undef) rfl (by kernel_rfl) (by kernel_rfl) (by kernel_rfl) (fun _ _ _ h => h) (Or.inr ⟨by rfl, rfl⟩) hHeld ?_
            try simp only [Act.put, List.setIfInBounds_toArray, List.set_cons_zero, List.set_cons_succ]
            refine wpAnyH_take (i := 23) (oi := ⟨some 54, _, _, _, _, _⟩) (v := undef) rfl (by kernel_rfl) (by kernel_rfl) (by kernel_rfl) (fun _ _ _ h => h) (Or.inr ⟨by rfl, rfl⟩) hHeld ?_
            try simp only [Act.put, List.setIfInBounds_toArray, List.set_cons_zero, List.set_cons_succ]
            refine wpAnyH_take (i := 24) (oi := ⟨some 55, _, _, _, _, _⟩) (v := undef) rfl (by kernel_rfl) (by kernel_rfl) (by kernel_rfl) (fun _ _ _ h => h) (Or.inr ⟨by rfl, rfl⟩) hHeld ?_
            try simp only [Act.put, List.setIfInBounds_toArray, List.set_cons_zero, List.set_cons_succ]
            refine wpAnyH_take (i := 25) (oi := ⟨some 56, _, _, _, _, _⟩) (v := undef) rfl (by kernel_rfl) (by kernel_rfl) (by kernel_rfl) (fun _ _ _ h => h) (Or.inr ⟨by rfl, rfl⟩) hHeld ?_
            try simp only [Act.put, List.setIfInBounds_toArray, List.set_cons_zero, List.set_cons_succ]
            refine wpAnyH_take (i := 26) (oi := ⟨some 57, _, _, _, _, _⟩) (v := undef) rfl (by kernel_rfl) (by kernel_rfl) (by kernel_rfl) (fun _ _ _ h => h) (Or.inr ⟨by rfl, rfl⟩) hHeld ?_
            try simp only [Act.put, List.setIfInBounds_toArray, List.set_cons_zero, List.set_cons_succ]
            refine wpAnyH_take (i := 27) (oi := ⟨some 58, _, _, _, _, _⟩) (v := undef) rfl (by kernel_rfl) (by kernel_rfl) (by kernel_rfl) (fun _ _ _ h => h) (Or.inr ⟨by rfl, rfl⟩) hHeld ?_
            try simp only [Act.put, List.setIfInBounds_toArray, List.set_cons_zero, List.set_cons_succ]
            refine wpAnyH_take (i := 28) (oi := ⟨some 59, _, _, _, _, _⟩) (v := undef) rfl (by kernel_rfl) (by kernel_rfl) (by kernel_rfl) (fun _ _ _ h => h) (Or.inr ⟨by rfl, rfl⟩) hHeld ?_
            try simp only [Act.put, List.setIfInBounds_toArray, List.set_cons_zero, List.set_cons_succ]
            refine wpAnyH_take (i := 29) (oi := ⟨some 60, _, _, _, _, _⟩) (v := ?gcv29) rfl (by kernel_rfl) (by kernel_rfl) (by kernel_rfl) (fun _ _ _ h => h) (Or.inl ⟨by rfl, ?gcy29⟩) hHeld ?gcr29
            case gcy29 => (intro W hSw; (try dsimp only at hSw); go_simp; try with_reducible rfl)
            try simp only [Act.put, List.setIfInBounds_toArray, List.set_cons_zero, List.set_cons_succ]
            refine wpAnyH_done (by kernel_rfl) ?_ _
            have HBH := Lib.hid (show Below wr.heap.size wr wn from HBX.out.trans (hHeld.1.mono HBX.out.size))
            have HYn := Lib.hid ((hHeld.1.block p hpx).trans HYx.out)
            clear hHeld hs0
            go_wp2
            go_roundw
            case rel => exact ⟨a + 1, m, V, cv, by omega, by go_num, rfl, by rw [HST.out]; exact HM, by rw [HST.out]; exact Lib.hid (own_below HO.out HBH.out (Nat.le_refl _)), Lib.hid (HB.out.trans (HBH.out.mono hzr)), Lib.hid ⟨HYn.out, HY.out.2⟩⟩
            case measure => simp [intOf]; omega
        · obtain rfl : b = a := by omega
          go_wp2
          go_roundw
          case rel => exact ⟨b + 1, m, V, cv, by omega, by go_num, rfl, by rw [nearL_succ]; exact HM, by rw [nearL_succ]; exact HO, HB⟩
          case measure => simp [intOf]; omega
      · obtain rfl : n = b := by omega
        go_wp2
        go_ret
        refine ⟨⟨V0, cv0, by first | (rw [HR.out, HM0.out]; done) | (rw [HR.out, HM0.out]; rfl), ?_⟩, ?_⟩
        · rw [HR.out, HM0.out]
          exact own_base HO0.out (by first | exact HBb.out.size | (rw [HG.out]; omega))
        · first | exact HBb.out.trans (HB0.out.mono HBb.out.size) | (rw [← HG.out]; exact HBb.out.trans (HB0.out.mono HBb.out.size))
  · have hpd : (ce == 0) = false := beq_eq_false_iff_ne.2 hce
    have hpe : (ce != 0) = true := bne_iff_ne.2 hce
    rw [if_neg hce] at HR
    clear HT0 hck
    go_enter Try.func106, Try.ntmps106
    go_wp2_with (go_at_call 10; go_loud (refine HCH.out.mono ?_; rintro E wb ⟨rfl, hbc⟩; have HBC := Lib.hid (HBW.out.trans (hbc.mono HBW.out.size)); clear hbc))
    go_ret
    refine ⟨⟨none, 0, by rw [HR.out]; rfl, by rw [HR.out]; exact World.ownsRow_nil _ _ _ _⟩, ?_⟩
    first | exact HBC.out | (rw [← HG.out]; exact HBC.out)
end Go.Proofs.Ytdmecagdjbjgjaa
