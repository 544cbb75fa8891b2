/- Package snapshot: the fixed example. -/
import Derived.Test.YtojnojjiblcmcaaDoorB1
import Derived.Laws.StructEq
import Derived.Shelf.SlicesE.Kit
namespace Go.Proofs.YtojnojjiblcmcaaDoor
open Go.RowKit

theorem hx0 : hexL 14695981039346656037 = hexL 918498814959166002 ++ [53] := by
  have h := hexL_ge (u := 14695981039346656037) (by omega)
  rw [show 14695981039346656037 / 16 = 918498814959166002 by omega, show 14695981039346656037 % 16 = 5 by omega] at h
  exact h
theorem hx1 : hexL 918498814959166002 = hexL 57406175934947875 ++ [50] := by
  have h := hexL_ge (u := 918498814959166002) (by omega)
  rw [show 918498814959166002 / 16 = 57406175934947875 by omega, show 918498814959166002 % 16 = 2 by omega] at h
  exact h
theorem hx2 : hexL 57406175934947875 = hexL 3587885995934242 ++ [51] := by
  have h := hexL_ge (u := 57406175934947875) (by omega)
  rw [show 57406175934947875 / 16 = 3587885995934242 by omega, show 57406175934947875 % 16 = 3 by omega] at h
  exact h
theorem hx3 : hexL 3587885995934242 = hexL 224242874745890 ++ [50] := by
  have h := hexL_ge (u := 3587885995934242) (by omega)
  rw [show 3587885995934242 / 16 = 224242874745890 by omega, show 3587885995934242 % 16 = 2 by omega] at h
  exact h
theorem hx4 : hexL 224242874745890 = hexL 14015179671618 ++ [50] := by
  have h := hexL_ge (u := 224242874745890) (by omega)
  rw [show 224242874745890 / 16 = 14015179671618 by omega, show 224242874745890 % 16 = 2 by omega] at h
  exact h
theorem hx5 : hexL 14015179671618 = hexL 875948729476 ++ [50] := by
  have h := hexL_ge (u := 14015179671618) (by omega)
  rw [show 14015179671618 / 16 = 875948729476 by omega, show 14015179671618 % 16 = 2 by omega] at h
  exact h
theorem hx6 : hexL 875948729476 = hexL 54746795592 ++ [52] := by
  have h := hexL_ge (u := 875948729476) (by omega)
  rw [show 875948729476 / 16 = 54746795592 by omega, show 875948729476 % 16 = 4 by omega] at h
  exact h
theorem hx7 : hexL 54746795592 = hexL 3421674724 ++ [56] := by
  have h := hexL_ge (u := 54746795592) (by omega)
  rw [show 54746795592 / 16 = 3421674724 by omega, show 54746795592 % 16 = 8 by omega] at h
  exact h
theorem hx8 : hexL 3421674724 = hexL 213854670 ++ [52] := by
  have h := hexL_ge (u := 3421674724) (by omega)
  rw [show 3421674724 / 16 = 213854670 by omega, show 3421674724 % 16 = 4 by omega] at h
  exact h
theorem hx9 : hexL 213854670 = hexL 13365916 ++ [101] := by
  have h := hexL_ge (u := 213854670) (by omega)
  rw [show 213854670 / 16 = 13365916 by omega, show 213854670 % 16 = 14 by omega] at h
  exact h
theorem hx10 : hexL 13365916 = hexL 835369 ++ [99] := by
  have h := hexL_ge (u := 13365916) (by omega)
  rw [show 13365916 / 16 = 835369 by omega, show 13365916 % 16 = 12 by omega] at h
  exact h
theorem hx11 : hexL 835369 = hexL 52210 ++ [57] := by
  have h := hexL_ge (u := 835369) (by omega)
  rw [show 835369 / 16 = 52210 by omega, show 835369 % 16 = 9 by omega] at h
  exact h
theorem hx12 : hexL 52210 = hexL 3263 ++ [50] := by
  have h := hexL_ge (u := 52210) (by omega)
  rw [show 52210 / 16 = 3263 by omega, show 52210 % 16 = 2 by omega] at h
  exact h
theorem hx13 : hexL 3263 = hexL 203 ++ [102] := by
  have h := hexL_ge (u := 3263) (by omega)
  rw [show 3263 / 16 = 203 by omega, show 3263 % 16 = 15 by omega] at h
  exact h
theorem hx14 : hexL 203 = hexL 12 ++ [98] := by
  have h := hexL_ge (u := 203) (by omega)
  rw [show 203 / 16 = 12 by omega, show 203 % 16 = 11 by omega] at h
  exact h
theorem hx15 : hexL 12 = [99] := hexL_lt (by omega)
theorem hex_start : hexL fnv0 = [99, 98, 102, 50, 57, 99, 101, 52, 56, 52, 50, 50, 50, 51, 50, 53] := by
  unfold fnv0
  rw [hx0, hx1, hx2, hx3, hx4, hx5, hx6, hx7, hx8, hx9, hx10, hx11, hx12, hx13, hx14, hx15]
  rfl

def sA : ByteArray := { data := #[97] }
def sX : ByteArray := { data := #[120] }
def sTxt : ByteArray := { data := #[99, 98, 102, 50, 57, 99, 101, 52, 56, 52, 50, 50, 50, 51, 50, 53, 10] }
theorem put_one : putK key1 [] (sA, sX) = [(sA, sX)] := rfl
theorem key_one : keyB sA = true := by decide
theorem val_one : valB sX = true := by decide
theorem check_nil : checkL [] = 0 := rfl
theorem setC_one : setC [] sA sX = 0 := by
  unfold setC
  rw [check_nil, key_one, val_one, put_one]
  rfl
theorem setR_one : setR [] sA sX = [(sA, sX)] := by
  unfold setR
  rw [setC_one, put_one]
  rfl
theorem digN_nil : digN [] = fnv0 := by
  unfold digN
  rw [check_nil, if_pos rfl]
  unfold fnvL linesB
  rfl
theorem text_nil : textL [] = sTxt := by
  unfold textL textB
  rw [check_nil, if_pos rfl, digN_nil, hex_start]
  rfl

def eqR (x y : Rw) : Bool := x.1.toList == y.1.toList && x.2.toList == y.2.toList
theorem eqR_iff {x y : Rw} : eqR x y = true ↔ x = y := by
  obtain ⟨a, b⟩ := x
  obtain ⟨a', b'⟩ := y
  unfold eqR
  simp only [Bool.and_eq_true, beq_iff_eq, Prod.mk.injEq]
  exact ⟨fun h => ⟨ba_ext h.1, ba_ext h.2⟩, fun h => by rw [h.1, h.2]; exact ⟨rfl, rfl⟩⟩
set_option maxRecDepth 100000 in
theorem eqRw : EqlAt Tryd.prog 39 (fun x => .agg (rwV x).toArray) eqR := by
  refine ⟨fun x y w => ?_, GuardAt.agg _ (by kernel_rfl)⟩
  have u9 := Tryd.underlying9
  have a9 := Tryd.isAgg9
  have z9 := Tryd.sizeOf9
  have hS : Tryd.prog.underlying 39 = some (.struct (Tryd.prog.fieldsOf 39)) := by kernel_rfl
  have hp : Tryd.prog.stoodInHeld 39 = false := by kernel_rfl
  obtain ⟨a, b⟩ := x
  obtain ⟨a', b'⟩ := y
  simp only [rwV, eqR]
  rw [run_eql_struct, show (10000 : Nat) = 9999 + 1 from rfl, run_equalIn_agg w 9999 39 _ _ hS hp]
  simp only [Program.fieldsOf, Tryd.underlying39]
  go_simp
  by_cases h1 : a.toList = a'.toList <;> by_cases h2 : b.toList = b'.toList <;> simp [h1, h2]

set_option maxRecDepth 100000 in
set_option maxHeartbeats 2000000 in
theorem Fact_any (w : World) (hT : w.cell? ⟨3, 15, none⟩ = some (.int .u8 4)) (h3 : 3 < w.heap.size) : Calls Tryd.prog 9 #[] w fun e w' => e = .returned (.bool true) ∧ Below w.heap.size w w' := by
  have hS := Set_any none 0 0 [] w Sl.none_ rfl (fun x h => by cases h) (by decide) (fun _ => rfl) sA sX (by decide) (by decide)
  rw [setC_one, setR_one] at hS
  have HS := Lib.hid hS
  have HTx : Hid (∀ W, Below w.heap.size w W → Calls Tryd.prog 14 #[.slice none 0 0] W fun e w' => e = .returned (.tuple #[.string sTxt, .int .i64 0]) ∧ Below W.heap.size W w') := Lib.hid fun W hb => by
    have h := Text_any none 0 0 [] W Sl.none_ rfl (fun x h => by cases h) (by decide) ((hb.cell (p := ⟨3, 15, none⟩) h3).trans hT) (Nat.lt_of_lt_of_le h3 hb.size)
    unfold TextP at h
    rw [text_nil, check_nil] at h
    exact h
  have he := eqRw.1 (sA, sX) (sA, sX)
  have hg := fun op a b => eqRw.2 op a b (sA, sX) (sA, sX)
  rw [eqR_iff.2 rfl] at he
  have he' : ∀ (w : World), Sem.run Tryd.prog (binOp .eql 39 (.agg #[.string sA, .string sX]) (.agg #[.string sA, .string sX])) w = .ok (.bool true) w := he
  have hg' : ∀ (op : BinOp) (a b : Operand) (w : World), Sem.run Tryd.prog (eqGuard op 39 a b (.agg #[.string sA, .string sX]) (.agg #[.string sA, .string sX])) w = .ok () w := hg
  clear hS he hg hT h3
  have tA : sA.toList = [97] := by rw [ByteArray.toList_eq]; rfl
  have tX : sX.toList = [120] := by rw [ByteArray.toList_eq]; rfl
  have tl : sTxt.toList = [99, 98, 102, 50, 57, 99, 101, 52, 56, 52, 50, 50, 50, 51, 50, 53, 10] := by rw [ByteArray.toList_eq]; rfl
  go_enter Tryd.func9, Tryd.ntmps9
  go_wp2_with (first
    | (go_at_call 10; go_loud (refine HS.out.mono ?_; rintro e w1 ⟨A1, c1, rfl, ho1, hb1⟩; obtain ⟨g1, cap1, hv1, hbg1, hlt1⟩ := ho1.form (by decide); obtain rfl : A1 = some ⟨g1, 0, none⟩ := (Value.slice.inj hv1).1; have q0 : w1.cell? ⟨g1, 0, none⟩ = some (.string sA) := ho1.cellAt 0 (by decide); have q1 : w1.cell? ⟨g1, 1, none⟩ = some (.string sX) := ho1.cellAt 1 (by decide); have HB1 := Lib.hid hb1; clear ho1 hv1 hb1))
    | (go_at_call 14; go_loud (refine (HTx.out _ HB1.out).mono ?_; rintro e w2 ⟨rfl, hb2⟩; obtain ⟨hc2, hf2⟩ := bcell hb2; have HB2 := Lib.hid (bstep HB1.out hb2); clear hb2)))
  go_ret
  exact ⟨rfl, HB2.out⟩
end Go.Proofs.YtojnojjiblcmcaaDoor
