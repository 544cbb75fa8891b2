/- The frame of a law of the second form, where package-level variables are listed. -/
import Derived.Test.YtdlifdmnfbjokaaDoorLawD
import Derived.Deep.DeepHandedRow
import Derived.Deep.DeepWitnessRowRef
namespace Go.Proofs.YtdlifdmnfbjokaaDoor
open Go.ChangeShapes Go.WideShapes Go.ChangeAt Go.RowKit
namespace Law

set_option maxRecDepth 100000 in
theorem liftedU {os : Os} {H : Type} {enc : TypeId × Value → H} {F : Stop.Interp} {f : FuncId} {fn : Func} {s : ChangeSpec} {tb : TypeId} (laid : List (String × DataW Unit)) (started : os.Started) (noInit : Tryd.prog.inits.idxOf? f = none) (hfn : Tryd.prog.funcs[f]? = some fn)
    (hread : fn.params.toList.all (fun t => Tryd.prog.readableRec t && decide (t < Tryd.prog.types.size)) = true)
    (hres : fn.resultTypes = #[tb]) (hb : Tryd.prog.underlying tb = some .bool) (hv : s.vars = [])
    (hfnS : ∀ (H : Type) (ds : List (DataW H)), ds.length = fn.params.toList.length → s.fn H ds = { results := [.lit (.bool true)], args := ds })
    (witness : ∃ (w : World) (tape : Tape) (i : Input), w.os = os ∧ (w.forCall tape i).Shaped Tryd.checked.prog ∧ i.vars = [] ∧ Input.okWide Tryd.checked.prog (w.forCall tape i) .any w.heap.size f i ∧
      (Rows.OpenSpec.upto s).preRow enc Tryd.checked.prog fn [] false laid (w.forCall tape i).memory i.args ∧ ({} : Assume).holds Tryd.checked.prog (lone (Frame.enter Tryd.checked.prog f i.args .normal) [] (w.forCall tape i)))
    (contract : ∀ (W : World) (base : Nat) (args : Array Value) (ds : List (DataW H)) (p : List MemPlace),
      (∀ (j : Nat) t v, fn.params[j]? = some t → args[j]? = some v → Value.okWide Tryd.prog W .any base t v) →
      DataW.TrodAll enc Tryd.prog W 0 (fun _ => true) true fn.params.toList args.toList ds p →
      Rows.uptoSmall H ds = true →
      (∀ x ∈ p, x.block < W.heap.size) → laidMetH Tryd.prog laid W → W.ShapedOpen Tryd.prog →
      Calls Tryd.prog f args W fun e W' => e = .returned (.bool true) ∧ Below W.heap.size W W') :
    ReturnsInHanded {} Tryd.checked os f .any ((Rows.OpenSpec.upto s).preRow enc Tryd.prog fn [] false laid) (((Rows.OpenSpec.upto s).at F).post enc Tryd.prog fn false true false false) := by
  refine returnsInHanded_of_row (C := Tryd.checked) (s := Rows.OpenSpec.upto s) own started noInit hfn witness ?_
  intro W base args ds gs before hval hW _ hcond _ hlaid hsh _
  have hW' := hW
  obtain ⟨p, q, hA, hV, rfl, _, _⟩ := hW
  have hV' : DataW.TrodVars enc Tryd.prog W (fun _ => true) s.vars gs q := hV
  rw [hv] at hV'
  have hgs : gs = [] ∧ q = [] := by
    cases gs with
    | nil => exact ⟨rfl, hV'⟩
    | cons _ _ => exact hV'.elim
  obtain ⟨rfl, rfl⟩ := hgs
  have hlt : ∀ x ∈ p ++ [], x.block < W.heap.size := fun x hx => hW'.lt x hx
  simp only [List.append_nil] at hlt
  have hk := hcond _ rfl
  rw [List.append_nil] at hk
  refine (contract W base args ds p hval hA hk hlt hlaid hsh).mono fun e W' ⟨he, hbl⟩ => ⟨.bool true, he, ?_⟩
  have hS : s.fn H (ds ++ []) = { results := [.lit (.bool true)], args := ds } := by
    rw [List.append_nil]; exact hfnS H ds (trodAll_length hA)
  have hread' : ∀ t ∈ fn.params.toList, Tryd.prog.readableRec t = true ∧ t < Tryd.prog.types.size := fun t ht => by
    have := List.all_eq_true.1 hread t ht
    simpa using this
  show s.post enc Tryd.prog fn false true false false W args (.bool true) W'
  refine post_of_below (P := Tryd.prog) (pa := p) (pv := []) hW' ?_ ?_ ?_ rfl hbl ?_
  · intro b sp hd
    rw [hS, hres]
    exact trodAll_mk1 (shut_bool hb true)
  · intro sp hsp
    rw [hS]
    exact trodAll_stays laidOut hread' hA (fun x hx => hbl.same (hlt x hx)) (fun x hx => hsp x (by simpa using hx))
  · intro sp _
    rw [hS, hv]
    exact rfl
  · exact ok_one hres rfl (okWide_bool_mk hb true)
end Law
end Go.Proofs.YtdlifdmnfbjokaaDoor
