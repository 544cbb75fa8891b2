/- The walk of ReplayGrows. -/
import Derived.Test.YtbbklfjgojjlhaaDoorK10
import Derived.Test.YtbbklfjgojjlhaaDoorQ4
import Derived.Deep.RegionHeld3
namespace Go.Proofs.YtbbklfjgojjlhaaDoor
open Go.RowKit
open Go.Lib hiding intOf

theorem Sl_single (x : Ent) (W : World) : Sl (W.alloc (.cells #[.int .i64 x.num, .int .i64 x.time, .string x.kind, .string x.text] 36))
    (W.alloc (.cells #[.int .i64 x.num, .int .i64 x.time, .string x.kind, .string x.text] 36)).heap.size 4 (some ⟨W.heap.size, 0, none⟩) 1 (fun i => rowE (pairF x x i)) := by
  have hnew := heap_alloc_new W (.cells #[.int .i64 x.num, .int .i64 x.time, .string x.kind, .string x.text] 36)
  refine fun _ => ⟨W.heap.size, 0, rfl, (Array.getElem?_eq_some_iff.1 hnew).1, fun i hi j u hj => ?_⟩
  obtain rfl : i = 0 := by omega
  match j, hj with
  | 0, hj => have hj : some _ = some u := hj; cases hj; exact cell_of_row _ _ 0 _ _ _ hnew
  | 1, hj => have hj : some _ = some u := hj; cases hj; exact cell_of_row _ _ 1 _ _ _ hnew
  | 2, hj => have hj : some _ = some u := hj; cases hj; exact cell_of_row _ _ 2 _ _ _ hnew
  | 3, hj => have hj : some _ = some u := hj; cases hj; exact cell_of_row _ _ 3 _ _ _ hnew

theorem Run_single (A : Option Addr) (n c : Nat) (l : List Rw) (x : Ent) (W : World) (h : StAt l A n W) (hx : Wf x) (he : Env W) :
    Calls Tryd.prog 9 #[.slice A n c, .slice (some ⟨W.heap.size, 0, none⟩) 1 1] (W.alloc (.cells #[.int .i64 x.num, .int .i64 x.time, .string x.kind, .string x.text] 36))
      fun e w' => ∃ A6 c6, e = .returned (.tuple #[.slice A6 (runF l [x]).1.length c6, .int .i64 ((runF l [x]).2.1 : Int), .int .i64 (runF l [x]).2.2]) ∧ Sl w' w'.heap.size 2 A6 (runF l [x]).1.length (fun i => rwV (runF l [x]).1[i]!) ∧ Below W.heap.size W w' := by
  have hb : Below W.heap.size W (W.alloc (.cells #[.int .i64 x.num, .int .i64 x.time, .string x.kind, .string x.text] 36)) := (Below.refl _ _).alloc (Nat.le_refl _) _
  refine (Run_any A n c l (some ⟨W.heap.size, 0, none⟩) 1 1 (pairF x x) _ (h.below hb) (Sl_single x W) (by decide) (fun i hi => ?_) (he.below hb)).mono ?_
  · unfold pairF; split <;> exact hx
  · rintro e w' ⟨A6, c6, rfl, ho, hb'⟩
    rw [show entsF (pairF x x) 0 1 = [x] from rfl] at ho ⊢
    exact ⟨A6, c6, rfl, Sl_rows rwV_len ho rfl (by decide), bstep hb hb'⟩

theorem Sl_row1 {w : World} {A : Option Addr} {B : Nat} {k v : ByteArray} (h : Sl w B 2 A 1 (fun i => rwV ([((k, v) : Rw)])[i]!)) : ∃ b off, A = some ⟨b, off, none⟩ ∧ b < B ∧ w.cell? ⟨b, off + 1, none⟩ = some (.string v) := by
  obtain ⟨b, off, e, hb, hr⟩ := h (by omega)
  have h1 := hr 0 (by omega) 1 _ rfl
  rw [Nat.zero_mul, Nat.add_zero] at h1
  exact ⟨b, off, e, hb, h1⟩

set_option maxRecDepth 100000 in
set_option maxHeartbeats 4000000 in
theorem Grows_walk (p q r : Int) (w : World) (he : Env w) :
    Calls Tryd.prog 4 #[.int .i64 p, .int .i64 q, .int .i64 r] w fun v w' => v = .returned (.bool true) ∧ Below w.heap.size w w' := by
  have HV := Lib.hid he
  clear he
  have ha := cutI_bd (n := p) (lo := -1000) (hi := 1000) (by omega)
  have hb := cutI_bd (n := q) (lo := -1000) (hi := 1000) (by omega)
  have hc := cutI_bd (n := r) (lo := -1000) (hi := 1000) (by omega)
  obtain ⟨a, ea⟩ : ∃ a, cutI p (-1000) 1000 = a := ⟨_, rfl⟩
  obtain ⟨b, eb⟩ : ∃ b, cutI q (-1000) 1000 = b := ⟨_, rfl⟩
  obtain ⟨c, ec⟩ : ∃ c, cutI r (-1000) 1000 = c := ⟨_, rfl⟩
  rw [ea] at ha
  rw [eb] at hb
  rw [ec] at hc
  have EA := Lib.hid ea
  have EB := Lib.hid eb
  have EC := Lib.hid ec
  clear ea eb ec
  have hwbc : IntKind.i64.wrap (b + c) = b + c := IntWalk.i64_in _ (by omega)
  have hwab : IntKind.i64.wrap (a + b) = a + b := IntWalk.i64_in _ (by omega)
  have hwabc : IntKind.i64.wrap (a + b + c) = a + b + c := IntWalk.i64_in _ (by omega)
  have HTx := Lib.hid (fun (x : Int) (h0 : -3000 ≤ x) (h1 : x ≤ 3000) W => text_any x W (by omega) (by omega))
  have sz := fun (x : Int) (h0 : -3000 ≤ x) (h1 : x ≤ 3000) => show (mk (itoa x)).size ≤ 7 by rw [size_mk]; exact itoa_len7 (by omega) (by omega)
  have sb := sz b (by omega) (by omega)
  have sc := sz c (by omega) (by omega)
  have sbc := sz (b + c) (by omega) (by omega)
  have sa := sz a (by omega) (by omega)
  have HTa := Lib.hid (HTx.out a (by omega) (by omega))
  have HTb := Lib.hid (HTx.out b (by omega) (by omega))
  have HTc := Lib.hid (HTx.out c (by omega) (by omega))
  have HTd := Lib.hid (HTx.out (b + c) (by omega) (by omega))
  have HTs := Lib.hid (HTx.out (a + b + c) (by omega) (by omega))
  obtain ⟨X, hX⟩ : ∃ X, ({ data := #[107, 32] } : ByteArray) ++ mk (itoa b) = X := ⟨_, rfl⟩
  obtain ⟨Y, hY⟩ : ∃ Y, ({ data := #[107, 32] } : ByteArray) ++ mk (itoa c) = Y := ⟨_, rfl⟩
  obtain ⟨Z, hZ⟩ : ∃ Z, ({ data := #[107, 32] } : ByteArray) ++ mk (itoa (b + c)) = Z := ⟨_, rfl⟩
  have bX : bl X = 107 :: 32 :: itoa b := by rw [← hX, bl_append, bl_mk]; rfl
  have bY : bl Y = 107 :: 32 :: itoa c := by rw [← hY, bl_append, bl_mk]; rfl
  have bZ : bl Z = 107 :: 32 :: itoa (b + c) := by rw [← hZ, bl_append, bl_mk]; rfl
  have sX : X.size ≤ 9 := by rw [← hX, ByteArray.size_append]; show 2 + _ ≤ 9; omega
  have sY : Y.size ≤ 9 := by rw [← hY, ByteArray.size_append]; show 2 + _ ≤ 9; omega
  have sZ : Z.size ≤ 9 := by rw [← hZ, ByteArray.size_append]; show 2 + _ ≤ 9; omega
  have g2 := grows2 ha hb hc bX bY
  have g1 := grows1 (a := a) (b := b + c) ha (by omega) bZ
  rw [← Int.add_assoc] at g1
  have va := fine1 (valB_itoa (a := a) (by omega) (by omega))
  obtain ⟨Ta, hTa⟩ : ∃ Ta, mk (itoa a) = Ta := ⟨_, rfl⟩
  obtain ⟨Tb, hTb⟩ : ∃ Tb, mk (itoa b) = Tb := ⟨_, rfl⟩
  obtain ⟨Tc, hTc⟩ : ∃ Tc, mk (itoa c) = Tc := ⟨_, rfl⟩
  obtain ⟨Td, hTd⟩ : ∃ Td, mk (itoa (b + c)) = Td := ⟨_, rfl⟩
  obtain ⟨Ts, hTs⟩ : ∃ Ts, mk (itoa (a + b + c)) = Ts := ⟨_, rfl⟩
  rw [hTa] at HTa g1 g2 va sa
  rw [hTb] at HTb hX sb
  rw [hTc] at HTc hY sc
  rw [hTd] at HTd hZ sbc
  rw [hTs] at HTs g1 g2
  have hbn : Below w.heap.size w (w.alloc (.cells #[.string ⟨#[107]⟩, .string Ta] 34)) := (Below.refl _ _).alloc (Nat.le_refl _) _
  have hnew := heap_alloc_new w (.cells #[.string ⟨#[107]⟩, .string Ta] 34)
  have hlt : w.heap.size < (w.alloc (.cells #[.string ⟨#[107]⟩, .string Ta] 34)).heap.size := (Array.getElem?_eq_some_iff.1 hnew).1
  have hst : StAt [(kK, Ta)] (some ⟨w.heap.size, 0, none⟩) 1 (w.alloc (.cells #[.string ⟨#[107]⟩, .string Ta] 34)) := by
    refine ⟨fun _ => ⟨w.heap.size, 0, rfl, hlt, fun i hi j u hj => ?_⟩, rfl, small_max va, by unfold maxLen; omega, fun h => by cases h⟩
    obtain rfl : i = 0 := by omega
    match j, hj with
    | 0, hj => have hj : some _ = some u := hj; cases hj; exact cell_of_row _ _ 0 _ _ _ hnew
    | 1, hj => have hj : some _ = some u := hj; cases hj; exact cell_of_row _ _ 1 _ _ _ hnew
  have HSt := Lib.hid hst
  have HBn := Lib.hid hbn
  have HR := Lib.hid (Run_pair (some ⟨w.heap.size, 0, none⟩) 1 1 [(kK, Ta)] ⟨1, 0, kGrow, X⟩ ⟨2, 0, kGrow, Y⟩ _ hst (wf_mk (by decide) (by decide) (by decide) (by unfold maxLen; omega)) (wf_mk (by decide) (by decide) (by decide) (by unfold maxLen; omega)) (HV.out.below hbn))
  have HR2 := Lib.hid (fun W (hW : Below w.heap.size w W) (hs : StAt [(kK, Ta)] (some ⟨w.heap.size, 0, none⟩) 1 W) => Run_single (some ⟨w.heap.size, 0, none⟩) 1 1 [(kK, Ta)] ⟨1, 0, kGrow, Z⟩ W hs (wf_mk (by decide) (by decide) (by decide) (by unfold maxLen; omega)) (HV.out.below hW))
  simp only [g2] at HR
  simp only [g1] at HR2
  unfold kGrow at HR HR2
  simp only [List.length_cons, List.length_nil] at HR HR2
  have hz : (w.alloc (.cells #[.string ⟨#[107]⟩, .string Ta] 34)).heap.size = w.heap.size + 1 := by simp
  have HZ := Lib.hid hz
  rw [hz] at HR
  clear hz g1 g2 bX bY bZ sz HTx hTa hTb hTc hTd hTs hst hlt hnew hbn va
  go_enter Tryd.func4, Tryd.ntmps4
  go_wp2_with (first
    | (go_at_call 8; go_loud (refine (Cut_any _ _ _ _ (by omega) (by omega) (by omega)).mono ?_; rintro e w2 ⟨rfl, rfl⟩; first | rw [EA.out] | rw [EB.out] | rw [EC.out]))
    | (go_at_call_of 12 (Value.int .i64 a); go_loud (refine (HTa.out _).mono ?_; rintro e w3 ⟨rfl, rfl⟩))
    | (go_at_call_of 12 (Value.int .i64 b); go_loud (refine (HTb.out _).mono ?_; rintro e w3 ⟨rfl, rfl⟩))
    | (go_at_call_of 12 (Value.int .i64 c); go_loud (refine (HTc.out _).mono ?_; rintro e w3 ⟨rfl, rfl⟩))
    | (go_at_call_of 12 (Value.int .i64 (b + c)); go_loud (refine (HTd.out _).mono ?_; rintro e w3 ⟨rfl, rfl⟩))
    | (have _h9 := hb4; go_at_call 9; go_loud (refine (HR2.out _ (HBn.out.trans (hb4.mono HBn.out.size)) (HSt.out.below hb4)).mono ?_; rintro e w5 ⟨A7, c7, rfl, hs7, hb5⟩; have HS7 := Lib.hid hs7; clear hs7))
    | (go_at_call 9; go_loud (refine HR.out.mono ?_; rintro e w4 ⟨A6, c6, rfl, hs6, hb4'⟩; have hb4 : Below (w.alloc (.cells #[.string ⟨#[107]⟩, .string Ta] 34)).heap.size (w.alloc (.cells #[.string ⟨#[107]⟩, .string Ta] 34)) w4 := (by rw [HZ.out]; exact hb4'); have HB4 := Lib.hid hb4; clear hb4'; have HS6 := Lib.hid hs6; clear hs6)))
  obtain ⟨b6, off6, rfl, hlt6, r6⟩ := Sl_row1 HS6.out
  have r5 := (hb5.cell (p := ⟨b6, off6 + 1, none⟩) hlt6).trans r6
  have hlt5 : b6 < w5.heap.size := Nat.lt_of_lt_of_le hlt6 hb5.size
  have HB5 := Lib.hid (HBn.out.trans ((hb4.trans (hb5.mono hb4.size)).mono HBn.out.size))
  have HSa := Lib.hid ((HS6.out.below hb5).more hb5.size)
  have HR5 := Lib.hid (Below.refl w5.heap.size w5)
  clear hb4 hb5 r6 hlt6 HB4 HR HR2 HTa HTb HTc HTd hX hY hZ
  go_region_held3 (fun u => u.cell? ⟨b6, off6 + 1, none⟩ = some (.string Ts)) (first | exact s7 | exact s6 | exact r5) ((first
    | (go_at_call 10; refine (fact_any _ (HV.out.below (by first | exact HB5.out | exact below_drewN HB5.out _))).mono ?_; rintro e w6 ⟨rfl, hb6'⟩; have hb6 : Below w5.heap.size w5 w6 := (by first | exact hb6' | exact Below.trans (below_drewN HR5.out _) hb6'); have s6 := (hb6.cell (p := ⟨b6, off6 + 1, none⟩) hlt5).trans r5)
    | (go_at_call 11; refine (Same_any _ _ 1 _ _ w6.heap.size [(kK, Ts)] _ ((HSa.out.below hb6).more hb6.size) ((HS7.out.below hb6).more hb6.size) (by decide)).mono ?_; rintro e w7 ⟨rfl, hb7⟩; have hb7' := hb6.trans (hb7.mono hb6.size); have s7 := (hb7'.cell (p := ⟨b6, off6 + 1, none⟩) hlt5).trans r5)
    | (go_at_call 12; refine (HTs.out _).mono ?_; rintro e w8 ⟨rfl, rfl⟩)))
  go_wp2
  go_ret
  exact ⟨rfl, bstep HB5.out hb7'⟩
end Go.Proofs.YtbbklfjgojjlhaaDoor
