/- Contracts and plain words, part 1: texts LawD, Mem, App, Row, More, Cut, R1, T1. -/
import Derived.Test.YtaebebpldkciiaaGreatDoorRows
import Derived.ProofKit
import Derived.SizedLaws
import Derived.HandedShaped
import Derived.LaidMore
import Derived.SevenTiedAt
import Derived.MakeChecks
import Derived.Shelf.Vars
import Derived.Test.YtaebebpldkciiaaGreatDoorProg
import Derived.WalkKit
import Derived.WalkSpells
import Derived.WalkLawsBesides
import Derived.Lib.Hide
import Derived.Deep.MidRow
import Derived.Deep.Draws
import Derived.Laws.OwnMore
import Derived.Laws.AppendOwn
import Derived.Deep.AppendLies
import Derived.Laws.Rows
import Derived.Deep.RegionHeld3
import Derived.Lib.MinMax
namespace Go.Proofs.YtaebebpldkciiaaGreatDoor
theorem zI {α : Type} (l : List α) (i : Nat) (a : α) : l.toArray.setIfInBounds i a = (l.set i a).toArray := List.setIfInBounds_toArray ..
theorem zO {α : Type} (a b : α) (l : List α) : (a :: l).set 0 b = b :: l := List.set_cons_zero ..
theorem zS {α : Type} (a b : α) (n : Nat) (l : List α) : (a :: l).set (n + 1) b = a :: l.set n b := List.set_cons_succ ..
section
open Go.ChangeShapes Go.WideShapes Go.ChangeAt Go.RowKit
namespace Law
theorem own : ownKnob Tryz.prog.godebug = none := by kernel_rfl
theorem laidOut : laidOutB Tryz.prog = true := by kernel_rfl
section
variable {H : Type} {enc : TypeId × Value → H} {P : Program}
theorem post_of_below {f : Func} {s : ChangeSpec} {apart fresh handsOn again : Bool} {W W' : World} {args : Array Value} {v : Value} {ds gs : List (DataW H)} {before pa pv : List MemPlace}
  (hW : DataW.Whole enc P f.params.toList s.vars apart W args.toList ds gs before)
  (hres : ∀ (b : Nat) (sp : Nat → Bool) (hd : Bool), DataW.TrodAll enc P W' b sp hd f.resultTypes.toList (v.resultList f.resultTypes.size) (s.fn H (ds ++ gs)).results [])
  (hargs : ∀ sp : Nat → Bool, (∀ p ∈ before, sp p.block = true) → DataW.TrodAll enc P W' 0 sp true f.params.toList args.toList (s.fn H (ds ++ gs)).args pa)
  (hvars : ∀ sp : Nat → Bool, (∀ p ∈ before, sp p.block = true) → DataW.TrodVars enc P W' sp s.vars (s.fn H (ds ++ gs)).vars pv)
  (hps : before = pa ++ pv) (hb : Below W.heap.size W W')
  (hok : ∀ (j : Nat) (t : TypeId) (r : Value), f.resultTypes[j]? = some t → (v.resultList f.resultTypes.size)[j]? = some r → Value.okWide P W' .any 0 t r) :
  s.post enc P f apart fresh handsOn again W args v W' := by
 have hlt : ∀ p ∈ before, p.block < W.heap.size := fun p hp => hW.lt p hp
 have hold : ∀ p ∈ before, (fun b => decide (b < W.heap.size)) p.block = true := fun p hp => by simpa using hlt p hp
 refine ⟨ds, gs, before, [], pa, pv, hW, hres _ _ _, hargs _ hold, hvars _ hold, World.keptBut_mono (fun p hp => ⟨hp, ?_⟩) (hb.frame (· ∈ before)), fun _ => ?_⟩
 ·rw [hps, List.mem_append] at hp
  exact Or.inr hp
 ·obtain ⟨_, _, _, _, _, hz, hn⟩ := hW
  refine ⟨hok, _, _, ([] ++ pa) ++ pv, ⟨[] ++ pa, pv, trodAll_append (hargs _ (fun _ _ => rfl)) (hres _ _ _), hvars _ (fun _ _ => rfl), rfl, ?_, ?_⟩, ?_⟩
  ·intro b off hp
   have hin : MemPlace.cell b off ∈ before := by rw [hps]; simpa using hp
   rw [hb.frozen (hlt _ hin)]
   exact hz b off hin
  ·intro ha
   have := hn ha
   rw [hps] at this
   simpa using this
  ·intro p hp _
   rw [hps]
   simpa using hp
theorem trodAll_stays (hl : laidOutB P = true) {W W' : World} {sp : Nat → Bool} : ∀ {ts : List TypeId} {vs : List Value} {ds : List (DataW H)} {ps : List MemPlace},
  (∀ t ∈ ts, P.readableRec t = true ∧ t < P.types.size) → DataW.TrodAll enc P W 0 (fun _ => true) true ts vs ds ps →
  (∀ p ∈ ps, W.sameAt W' p) → (∀ p ∈ ps, sp p.block = true) → DataW.TrodAll enc P W' 0 sp true ts vs ds ps
 | [], [], [], _, _, h, _, _ => h
 | t :: ts, v :: vs, d :: ds, _, ht, ⟨p, q, h1, h2, e⟩, hs, hsp => by
  subst e
  exact ⟨p, q, WideElems.Trod_stays hl (ht t (by simp)).1 (ht t (by simp)).2 h1 (fun x hx => hs x (by simp [hx])) (fun x hx => hsp x (by simp [hx])),
   trodAll_stays hl (fun t' h' => ht t' (by simp [h'])) h2 (fun x hx => hs x (by simp [hx])) (fun x hx => hsp x (by simp [hx])), rfl⟩
theorem trodAll_length {W : World} {b : Nat} {sp : Nat → Bool} {hd : Bool} : ∀ {ts : List TypeId} {vs : List Value} {ds : List (DataW H)} {ps : List MemPlace},
  DataW.TrodAll enc P W b sp hd ts vs ds ps → ds.length = ts.length
 | [], [], [], _, _ => rfl
 | _ :: ts, _ :: vs, _ :: ds, _, ⟨_, _, _, h2, _⟩ => by simp [trodAll_length h2]
theorem returns_and {a : Assume} {C : Checked} {os : Os} {f : FuncId} {fn : Func} {s : ChangeSpec} {conds : List PathCond} {apart fresh handsOn again : Bool} {X : World → Array Value → Prop}
  (hX : ∀ (w w' : World) (args : Array Value), w.heap = w'.heap → X w args → X w' args)
  (own : ownKnob C.prog.godebug = none) (started : os.Started) (noInit : C.prog.inits.idxOf? f = none) (hfn : C.prog.funcs[f]? = some fn)
  (witness : ∃ (w : World) (tape : Tape) (i : Input), w.os = os ∧ (w.forCall tape i).Shaped C.prog ∧ i.vars = [] ∧ Input.okWide C.prog (w.forCall tape i) .any w.heap.size f i ∧
   ((s.pre enc C.prog fn conds apart (w.forCall tape i).memory i.args ∧ X (w.forCall tape i).memory i.args) ∧ sizedMet enc C.prog fn (OpenSpec.ofChange s) apart (w.forCall tape i).memory i.args) ∧ a.holds C.prog (lone (Frame.enter C.prog f i.args .normal) [] (w.forCall tape i)))
  (contract : ∀ (W : World) (base : Nat) (args : Array Value) (ds gs : List (DataW H)) (before : List MemPlace),
   (∀ (j : Nat) t v, fn.params[j]? = some t → args[j]? = some v → Value.okWide C.prog W .any base t v) →
   DataW.Whole enc C.prog fn.params.toList s.vars apart W args.toList ds gs before →
   conds.all (PathCond.test C.prog ⟨fn.params.toList, ds, s.plain.varTypes C.prog, gs⟩) = true →
   (DataW.weightsEach C.prog (fn.params.toList ++ s.plain.varTypes C.prog) (ds ++ gs)).all (· ≤ reachBytes) = true → X W args →
   W.ShapedOpen C.prog →
   Calls C.prog f args W fun e W' => ∃ v, e = .returned v ∧ s.post enc C.prog fn apart fresh handsOn again W args v W') :
  ReturnsInHanded a C os f .any (fun w args => (s.pre enc C.prog fn conds apart w args ∧ X w args) ∧ sizedMet enc C.prog fn (OpenSpec.ofChange s) apart w args) (s.post enc C.prog fn apart fresh handsOn again) := by
 refine returnsInHanded_of_calls own started noInit witness ?_
 intro w tape i _ hsh _ hok hpre hholds
 obtain ⟨_, _, _, fn', hfn', _, _, _, _, hval⟩ := hok
 have e : fn' = fn := Option.some.inj (hfn'.symm.trans hfn)
 subst e
 obtain ⟨⟨⟨ds, gs, before, hw, hc⟩, hx⟩, hz⟩ := hpre
 have hw' := DataW.Whole.of_heap (w' := w.forCall tape i) (by rfl) hw
 refine (contract (w.forCall tape i) w.heap.size i.args ds gs before hval hw' hc (hz.weights hw) (hX _ _ _ (by rfl) hx) hsh).mono fun e W' ⟨v, he, hp⟩ => ?_
 subst he
 exact ChangeSpec.post_blind hp
end
set_option maxRecDepth 100000 in
theorem lifted {os : Os} {H : Type} {enc : TypeId × Value → H} {f : FuncId} {fn : Func} {s : ChangeSpec} {tb : TypeId} (laid : List (String × DataW Unit)) (started : os.Started) (noInit : Tryz.prog.inits.idxOf? f = none) (hfn : Tryz.prog.funcs[f]? = some fn)
  (hread : fn.params.toList.all (fun t => Tryz.prog.readableRec t && decide (t < Tryz.prog.types.size)) = true)
  (hres : fn.resultTypes = #[tb]) (hb : Tryz.prog.underlying tb = some .bool) (hv : s.vars = [])
  (hfnS : ∀ (H : Type) (ds : List (DataW H)), ds.length = fn.params.toList.length → s.fn H ds = { results := [.lit (.bool true)], args := ds })
  (witness : ∃ (w : World) (tape : Tape) (i : Input), w.os = os ∧ (w.forCall tape i).Shaped Tryz.prog ∧ i.vars = [] ∧ Input.okWide Tryz.prog (w.forCall tape i) .any w.heap.size f i ∧
   ((s.pre enc Tryz.prog fn [] false (w.forCall tape i).memory i.args ∧ laidMetH Tryz.prog laid (w.forCall tape i).memory) ∧ sizedMet enc Tryz.prog fn (OpenSpec.ofChange s) false (w.forCall tape i).memory i.args) ∧ ({} : Assume).holds Tryz.prog (lone (Frame.enter Tryz.prog f i.args .normal) [] (w.forCall tape i)))
  (contract : ∀ (W : World) (base : Nat) (args : Array Value) (ds : List (DataW H)) (p : List MemPlace),
   (∀ (j : Nat) t v, fn.params[j]? = some t → args[j]? = some v → Value.okWide Tryz.prog W .any base t v) →
   DataW.TrodAll enc Tryz.prog W 0 (fun _ => true) true fn.params.toList args.toList ds p →
   (DataW.weightsEach Tryz.prog fn.params.toList ds).all (· ≤ reachBytes) = true →
   (∀ x ∈ p, x.block < W.heap.size) → laidMetH Tryz.prog laid W → W.ShapedOpen Tryz.prog →
   Calls Tryz.prog f args W fun e W' => e = .returned (.bool true) ∧ Below W.heap.size W W') :
  ReturnsInHanded {} Tryz.checked os f .any (fun w args => (s.pre enc Tryz.prog fn [] false w args ∧ laidMetH Tryz.prog laid w) ∧ sizedMet enc Tryz.prog fn (OpenSpec.ofChange s) false w args) (s.post enc Tryz.prog fn false true false false) := by
 refine returns_and (C := Tryz.checked) (X := fun w _ => laidMetH Tryz.prog laid w) (fun _ _ _ hh h => h.of_heap hh) own started noInit hfn witness ?_
 intro W base args ds gs before hval hW _ hwt hlaid hsh
 have hW' := hW
 obtain ⟨p, q, hA, hV, rfl, _, _⟩ := hW
 rw [hv] at hV
 have hgs : gs = [] ∧ q = [] := by
  cases gs with
  | nil => exact ⟨rfl, hV⟩
  | cons _ _ => exact hV.elim
 obtain ⟨rfl, rfl⟩ := hgs
 have hlt : ∀ x ∈ p ++ [], x.block < W.heap.size := fun x hx => hW'.lt x hx
 simp only [List.append_nil] at hlt
 have hwt' : (DataW.weightsEach Tryz.prog fn.params.toList ds).all (· ≤ reachBytes) = true := by
  have e : s.plain.varTypes Tryz.prog = [] := by unfold DataSpec.varTypes ChangeSpec.plain; simp [hv]
  have hwt2 : (DataW.weightsEach Tryz.prog (fn.params.toList ++ s.plain.varTypes Tryz.prog) (ds ++ [])).all (· ≤ reachBytes) = true := hwt
  rw [e, List.append_nil, List.append_nil] at hwt2
  exact hwt2
 refine (contract W base args ds p hval hA hwt' hlt hlaid hsh).mono fun e W' ⟨he, hbl⟩ => ⟨.bool true, he, ?_⟩
 have hS : s.fn H (ds ++ []) = { results := [.lit (.bool true)], args := ds } := by
  rw [List.append_nil]; exact hfnS H ds (trodAll_length hA)
 have hread' : ∀ t ∈ fn.params.toList, Tryz.prog.readableRec t = true ∧ t < Tryz.prog.types.size := fun t ht => by
  have := List.all_eq_true.1 hread t ht
  simpa using this
 refine post_of_below (P := Tryz.prog) (pa := p) (pv := []) hW' ?_ ?_ ?_ rfl hbl ?_
 ·intro b sp hd
  rw [hS, hres]
  exact trodAll_mk1 (shut_bool hb true)
 ·intro sp hsp
  rw [hS]
  exact trodAll_stays laidOut hread' hA (fun x hx => hbl.same (hlt x hx)) (fun x hx => hsp x (by simpa using hx))
 ·intro sp _
  rw [hS, hv]
  exact rfl
 ·exact ok_one hres rfl (okWide_bool_mk hb true)
end Law
end
section
open Go.RowKit
theorem ret_int {k : IntKind} {a b : Int} (h : a = b) : Ending.returned (.int k a) = .returned (.int k b) := by rw [h]
def Sl (w : World) (B k : Nat) (A : Option Addr) (n : Nat) (row : Nat → List Value) : Prop :=
 0 < n → ∃ b off, A = some ⟨b, off, none⟩ ∧ b < B ∧ ∀ i, i < n → w.rangeAt b (off + i * k) (row i)
section
variable {w w' : World} {B B' k n : Nat} {A : Option Addr} {row : Nat → List Value}
theorem Sl.none_ : Sl w B k none 0 row := fun h => absurd h (by omega)
theorem Sl.keep (h : Sl w B k A n row) (hk : ∀ p : Addr, p.block < B → w'.cell? p = w.cell? p) : Sl w' B k A n row := fun hn => by
 obtain ⟨b, off, e, hb, hr⟩ := h hn
 exact ⟨b, off, e, hb, fun i hi j v hv => (hk ⟨b, _, none⟩ hb).trans (hr i hi j v hv)⟩
theorem Sl.more (h : Sl w B k A n row) (hB : B ≤ B') : Sl w B' k A n row := fun hn => by
 obtain ⟨b, off, e, hb, hr⟩ := h hn
 exact ⟨b, off, e, by omega, hr⟩
theorem Sl.below (h : Sl w B k A n row) (hb : Below B w w') : Sl w' B k A n row := h.keep fun _ hp => hb.cell hp
theorem Sl.drewN (h : Sl w B k A n row) (q : Nat) : Sl (w.drewN q) B k A n row := h
theorem Sl.drew (h : Sl w B k A n row) : Sl w.drew B k A n row := h
theorem Sl.less {m : Nat} (h : Sl w B k A n row) (hm : m ≤ n) : Sl w B k A m row := fun h0 => by
 obtain ⟨b, off, e, hb, hr⟩ := h (by omega)
 exact ⟨b, off, e, hb, fun i hi => hr i (by omega)⟩
theorem Sl.congr {row' : Nat → List Value} (h : Sl w B k A n row) (he : ∀ i, i < n → row i = row' i) : Sl w B k A n row' := fun h0 => by
 obtain ⟨b, off, e, hb, hr⟩ := h h0
 exact ⟨b, off, e, hb, fun i hi => by rw [← he i hi]; exact hr i hi⟩
theorem Sl.one {f : Nat → Value} (h : Sl w B 1 A n (fun i => [f i])) (hn : 0 < n) : ∃ b off, A = some ⟨b, off, none⟩ ∧ b < B ∧ ∀ i, i < n → w.cell? ⟨b, off + i, none⟩ = some (f i) := by
 obtain ⟨b, off, e, hb, hr⟩ := h hn
 refine ⟨b, off, e, hb, fun i hi => ?_⟩
 have := hr i hi 0 (f i) rfl
 rwa [Nat.mul_one, Nat.add_zero] at this
theorem Sl.of_own {base : Nat} {e : TypeId} {c : Nat} {xs : List Value} (h : w.ownsRow base e k (.slice A n c) n xs) (hB : w.heap.size ≤ B)
  (hrow : ∀ i, i < n → ∀ j v, (row i)[j]? = some v → xs[i * k + j]? = some v) : Sl w B k A n row := fun hn => by
 obtain ⟨g, cap, hv, _, hlt⟩ := h.form hn
 have hA : A = some ⟨g, 0, none⟩ := by injection hv
 subst hA
 refine ⟨g, 0, rfl, by omega, fun i hi j v hj => ?_⟩
 have := h.cells (g := g) rfl (i * k + j) v (hrow i hi j v hj)
 rw [Addr.add_mid] at this
 rw [Nat.add_assoc]; exact this
end
def intsV (l : List Int) : List Value := l.map (Value.int .i64)
theorem intsV_snoc (l : List Int) (x : Int) : intsV l ++ [.int .i64 x] = intsV (l ++ [x]) := by simp [intsV]
def ApartV (a b : Value) : Prop := a.ownBlock = none ∨ b.ownBlock = none ∨ a.ownBlock ≠ b.ownBlock
section
variable {w w' : World} {base n size : Nat} {e : TypeId} {v : Value} {xs : List Value}
theorem own_shape (h : w.ownsRow base e size v n xs) : ∃ A c, v = .slice A n c := by
 rcases h.2 with ⟨rfl, rfl⟩ | ⟨g, cap, cur, rfl, _⟩
 ·exact ⟨_, _, rfl⟩
 ·exact ⟨_, _, rfl⟩
theorem own_mono {base' : Nat} (h : w.ownsRow base e size v n xs) (hb : base' ≤ base) : w.ownsRow base' e size v n xs := by
 refine ⟨h.1, ?_⟩
 rcases h.2 with hn | ⟨g, cap, cur, rfl, hb', rest⟩
 ·exact .inl hn
 ·exact .inr ⟨g, cap, cur, rfl, Nat.le_trans hb hb', rest⟩
theorem own_below {B : Nat} (h : w.ownsRow base e size v n xs) (hb : Below B w w') (hB : w.heap.size ≤ B) : w'.ownsRow base e size v n xs := by
 refine ⟨h.1, ?_⟩
 rcases h.2 with hn | ⟨g, cap, cur, rfl, hb', hgg, rest⟩
 ·exact .inl hn
 ·refine .inr ⟨g, cap, cur, rfl, hb', ?_, rest⟩
  rw [hb.block g (Nat.lt_of_lt_of_le (Array.getElem?_eq_some_iff.1 hgg).1 hB)]
  exact hgg
theorem ApartV.symm {a b : Value} (h : ApartV a b) : ApartV b a := by
 rcases h with h | h | h
 ·exact .inr (.inl h)
 ·exact .inl h
 ·exact .inr (.inr (Ne.symm h))
end
theorem run_index_row {P : Program} {t e : TypeId} {n : Nat} {i : TypeInfo} {d : TypeDesc} (ht : P.underlying t = some (.array n e)) (he : P.underlying e = some d) (hd : d.isRow = true) (hi : P.info? e = some i)
  (cs : Array Value) (kd : IntKind) (k : Nat) (hk : k < n) (w : World) :
  (Instr.index t (.agg cs) (.int kd (k : Int))).run P w = .ok (.agg (cs.extract (k * i.size) (k * i.size + i.size))) w := by
 have hagg : (isAgg e).run P w = .ok true w := by
  unfold isAgg
  rw [Sem.run_bind, run_underlying he w]
  cases d <;> simp_all
 have h1 : (0 : Int) ≤ (k : Int) ∧ (k : Int) < (n : Int) := by omega
 simp [Instr.index, asIntOf, run_underlying ht, h1, sizeOf, typeInfo, hi, part, hagg]
 intro h; omega
theorem run_index_cell {P : Program} {t e : TypeId} {n : Nat} {i : TypeInfo} {d : TypeDesc} (ht : P.underlying t = some (.array n e)) (he : P.underlying e = some d) (hd : d.isRow = false) (hi : P.info? e = some i) (hs : i.size = 1)
  (cs : Array Value) (kd : IntKind) (k : Nat) (hk : k < n) (v : Value) (hv : cs[k]? = some v) (w : World) :
  (Instr.index t (.agg cs) (.int kd (k : Int))).run P w = .ok v w := by
 have hagg : (isAgg e).run P w = .ok false w := by
  unfold isAgg
  rw [Sem.run_bind, run_underlying he w]
  cases d <;> simp_all
 have h1 : (0 : Int) ≤ (k : Int) ∧ (k : Int) < (n : Int) := by omega
 simp [Instr.index, asIntOf, run_underlying ht, h1, sizeOf, typeInfo, hi, part, hagg, hs, hv]
 intro h; omega
theorem bcell {W w1 : World} (hb : Below W.heap.size W w1) : (∀ b o, b < W.heap.size → w1.cell? ⟨b, o, none⟩ = W.cell? ⟨b, o, none⟩) ∧ (∀ b o, b < W.heap.size → w1.frozen? ⟨b, o, none⟩ = W.frozen? ⟨b, o, none⟩) :=
 ⟨fun b o h => hb.cell (p := ⟨b, o, none⟩) h, fun b o h => hb.frozen (p := ⟨b, o, none⟩) h⟩
theorem below_drewN {B : Nat} {a w : World} (h : Below B a w) (n : Nat) : Below B a (w.drewN n) := ⟨h.os, h.tape, h.output, h.size, h.block⟩
end
section
open Go.RowKit
section
variable {P : Program}
theorem news_one (W : World) (cs : Array Value) (e : TypeId) : ∀ (j : Nat) (u : Value), cs.toList[j]? = some u → (W.alloc (.cells cs e)).cell? ((⟨W.heap.size, 0, none⟩ : Addr).add j) = some u := by
 intro j u hu
 rw [Addr.add_mid, Nat.zero_add, cell_of_row _ _ _ _ _ _ (heap_alloc_new W _)]
 simpa using hu
theorem wpList_append_one {ops : Array Oper} {rest : List Oper} {o : Oper} {a : Act} {Q : Exit → Act → World → Prop} (W : World) (cs : Array Value) (hgd : o.guard = none) (s x : Operand) (t : TypeId)
  (ho : o.op = .call { callee := .builtin .append, args := #[s, x], argTypes := #[t, t] })
  (base : Nat) (e : TypeId) (i : TypeInfo) (z : Value) (size bytes : Nat) (ht : P.underlying t = some (.slice e)) (hi : P.info? e = some i) (hz : i.zero = some z)
  (hsize : i.size = size) (hby : i.bytes = bytes) (hzs : z.cells.size = size) (hsz : 0 < size)
  (v : Value) (n : Nat) (xs : List Value) (hs : a.eval s = v) (hown : W.ownsRow base e size v n xs)
  (hcs : cs.size = size) (hx : a.eval x = .slice (some ⟨W.heap.size, 0, none⟩) 1 1) (h1 : cs.all (·.oneCell') = true)
  (hn : n + 1 ≤ 100000000) (hbytes : bytes ≤ 1000) (hbase : base ≤ W.heap.size)
  (h : ∀ g cap w', w'.ownsRow base e size (.slice (some ⟨g, 0, none⟩) (n + 1) cap) (n + 1) (xs ++ cs.toList) → (W.alloc (.cells cs e)).grownBy w' v.ownBlock → (v.ownBlock = some g ∨ g = W.heap.size + 1) → g < w'.heap.size →
   wpList P ops Q rest (a.put o.dst (.slice (some ⟨g, 0, none⟩) (n + 1) cap)) w') : wpList P ops Q (o :: rest) a (W.alloc (.cells cs e)) :=
 wpList_append_lies _ hgd s x t ho base e i z size bytes ht hi hz hsize hby hzs hsz v n xs hs (hown.alloc _) ⟨W.heap.size, 0, none⟩ 1 1 cs.toList hx (by simp [hcs]) (news_one W cs e)
  (fun u hu => (Array.all_eq_true_iff_forall_mem.1 h1) u (by simpa using hu)) (by omega) (by simp only [maxLen]; omega)
  (Nat.le_trans (Nat.mul_le_mul hn hbytes) (by decide)) (by simp; omega) (W.heap.size + 1) (by simp) h
theorem wpList_append_int {ops : Array Oper} {rest : List Oper} {o : Oper} {a : Act} {Q : Exit → Act → World → Prop} (W : World) (q : Int) (hgd : o.guard = none) (s x : Operand) (t : TypeId)
  (ho : o.op = .call { callee := .builtin .append, args := #[s, x], argTypes := #[t, t] })
  (base : Nat) (e : TypeId) (i : TypeInfo) (ht : P.underlying t = some (.slice e)) (hi : P.info? e = some i) (hz : i.zero = some (.int .i64 0)) (hsize : i.size = 1) (hby : i.bytes = 8)
  (v : Value) (n : Nat) (l : List Int) (hs : a.eval s = v) (hown : W.ownsRow base e 1 v n (intsV l))
  (hx : a.eval x = .slice (some ⟨W.heap.size, 0, none⟩) 1 1) (hn : n + 1 ≤ 100000000) (hbase : base ≤ W.heap.size)
  (h : ∀ g cap w', w'.ownsRow base e 1 (.slice (some ⟨g, 0, none⟩) (n + 1) cap) (n + 1) (intsV (l ++ [q])) → (W.alloc (.cells #[.int .i64 q] e)).grownBy w' v.ownBlock → (v.ownBlock = some g ∨ g = W.heap.size + 1) → g < w'.heap.size →
   wpList P ops Q rest (a.put o.dst (.slice (some ⟨g, 0, none⟩) (n + 1) cap)) w') : wpList P ops Q (o :: rest) a (W.alloc (.cells #[.int .i64 q] e)) :=
 wpList_append_one W #[.int .i64 q] hgd s x t ho base e i _ 1 8 ht hi hz hsize hby rfl (by omega) v n (intsV l) hs hown rfl hx (by simp [Value.oneCell']) hn (by omega) hbase
  (fun g cap w' h1 => h g cap w' (by rw [← intsV_snoc]; exact h1))
end
theorem below_app {B base : Nat} {a W w' : World} {o : Obj} {e : TypeId} {size n : Nat} {v : Value} {xs : List Value} (h : Below B a W) (hB : B ≤ W.heap.size) (hown : W.ownsRow base e size v n xs) (hb : B ≤ base)
  (hg : (W.alloc o).grownBy w' v.ownBlock) : Below B a w' :=
 (h.alloc hB o).grown hg (by simp; omega) (fun k hk => by have := (hown.lt k hk).1; omega)
end
section
open Go.RowKit
theorem wpList_wanted {P : Program} {ops : Array Oper} {rest : List Oper} {o : Oper} {a : Act} {w : World} {Q : Exit → Act → World → Prop} (hw : Region.wanted o (yielded ops a.tmps) = true)
  (h : ∀ K : Act → World → Prop, (∀ a w, wpList P ops Q rest a w → K a w) → o.wp P a w K Q) : wpList P ops Q (o :: rest) a w :=
 wpList_step fun K hK => by rw [if_pos hw]; exact h K hK
theorem wpList_load_row_w {P : Program} {ops : Array Oper} {rest : List Oper} {o : Oper} {a : Act} {w : World} {Q : Exit → Act → World → Prop} (ty : TypeId) (x : Operand) (ho : o.op = .load ty x)
  (g : Nat) (hx : a.eval x = .pointer (some ⟨g, 0, none⟩)) (hw : Region.wanted o (yielded ops a.tmps) = true) (t : TypeId) (cs : Array Value) (fr : Nat × Nat) (d : TypeDesc) (hg : w.heap[g]? = some (.cells cs t fr))
  (hu : P.underlying ty = some d) (hd : (match d with | .struct _ | .array _ _ => true | _ => false) = true) (hi : (P.info? ty).map (·.size) = some cs.size)
  (h : wpList P ops Q rest (a.put o.dst (.agg cs)) w) : wpList P ops Q (o :: rest) a w :=
 wpList_wanted hw fun _ hK => wp_load_row ty x ho g hx t cs fr d hg hu hd hi (hK _ _ h)
end
section
open Go.RowKit
theorem grown_setCell (w : World) (g i : Nat) (v : Value) : w.grownBy (w.setCell ⟨g, i, none⟩ v) (some g) := by
 have h := (Below.refl g w).setCell (p := ⟨g, i, none⟩) (Nat.le_refl _) v
 exact ⟨h.os, h.tape, h.output, h.size, fun k _ hk => heap_setCell_other _ _ _ _ (fun e => hk (by rw [e]))⟩
theorem own_cap {w : World} {base n k c : Nat} {e : TypeId} {A : Option Addr} {xs : List Value} (h : w.ownsRow base e k (.slice A n c) n xs) : n ≤ c ∧ c ≤ maxLen := by
 rcases h.2 with ⟨h1, h2⟩ | ⟨g, cap, cur, h1, _, _, h3, h4, _⟩
 ·cases h1; exact ⟨Nat.le_refl _, by decide⟩
 ·cases h1; exact ⟨h3, h4⟩
theorem own_nil {w : World} {base n k c : Nat} {e : TypeId} {A : Option Addr} {xs : List Value} (h : w.ownsRow base e k (.slice A n c) n xs) : A = none → n = 0 ∧ c = 0 := fun hA => by
 subst hA
 rcases h.2 with ⟨h1, h2⟩ | ⟨g, cap, cur, h1, _⟩
 ·cases h1; exact ⟨rfl, rfl⟩
 ·cases h1
theorem bstep {a b c : World} (h : Below a.heap.size a b) (h' : Below b.heap.size b c) : Below a.heap.size a c := h.trans (h'.mono h.size)
theorem hid_step {P : Nat → Prop} {j : Nat} (h : Hid (∀ i, i < j → P i)) (hj : P j) : Hid (∀ i, i < j + 1 → P i) :=
 Lib.hid fun i hi => by
  by_cases e : i = j
  ·subst e; exact hj
  ·exact h.out i (by omega)
def Tab (C : Array Value) (n : Nat) (f : Nat → Int) : Prop := C.size = n ∧ ∀ s, s < n → C[s]? = some (.int .i64 (f s))
theorem Tab.set {C : Array Value} {n : Nat} {f : Nat → Int} (h : Tab C n f) (i : Nat) (x : Int) (hi : i < n) : Tab (C.setIfInBounds i (.int .i64 x)) n (fun s => if s = i then x else f s) := by
 refine ⟨by simp [h.1], fun s hs => ?_⟩
 by_cases e : s = i
 ·subst e
  rw [Array.getElem?_setIfInBounds_self_of_lt (by rw [h.1]; exact hs)]; simp
 ·rw [Array.getElem?_setIfInBounds_ne (fun x => e x.symm)]; simp [e, h.2 s hs]
theorem Tab.congr {C : Array Value} {n : Nat} {f g : Nat → Int} (h : Tab C n f) (e : ∀ s, s < n → f s = g s) : Tab C n g := ⟨h.1, fun s hs => by rw [← e s hs]; exact h.2 s hs⟩
section
variable {P : Program}
theorem wpList_append_intN {ops : Array Oper} {rest : List Oper} {o : Oper} {a : Act} {Q : Exit → Act → World → Prop} (W : World) (N : Nat) (hN : N = W.heap.size) (q : Int) (hgd : o.guard = none) (s x : Operand) (t : TypeId)
  (ho : o.op = .call { callee := .builtin .append, args := #[s, x], argTypes := #[t, t] })
  (base : Nat) (e : TypeId) (i : TypeInfo) (ht : P.underlying t = some (.slice e)) (hi : P.info? e = some i) (hz : i.zero = some (.int .i64 0)) (hsize : i.size = 1) (hby : i.bytes = 8)
  (v : Value) (n : Nat) (l : List Int) (hs : a.eval s = v) (hown : W.ownsRow base e 1 v n (intsV l))
  (hx : a.eval x = .slice (some ⟨N, 0, none⟩) 1 1) (hn : n + 1 ≤ 100000000) (hbase : base ≤ W.heap.size)
  (h : ∀ g cap w', w'.ownsRow base e 1 (.slice (some ⟨g, 0, none⟩) (n + 1) cap) (n + 1) (intsV (l ++ [q])) → (W.alloc (.cells #[.int .i64 q] e)).grownBy w' v.ownBlock → (v.ownBlock = some g ∨ g = W.heap.size + 1) → g < w'.heap.size →
   wpList P ops Q rest (a.put o.dst (.slice (some ⟨g, 0, none⟩) (n + 1) cap)) w') : wpList P ops Q (o :: rest) a (W.alloc (.cells #[.int .i64 q] e)) := by
 subst hN
 exact wpList_append_int W q hgd s x t ho base e i ht hi hz hsize hby v n l hs hown hx hn hbase h
theorem wpList_append_oneN {ops : Array Oper} {rest : List Oper} {o : Oper} {a : Act} {Q : Exit → Act → World → Prop} (W : World) (N : Nat) (hN : N = W.heap.size) (cs : Array Value) (hgd : o.guard = none) (s x : Operand) (t : TypeId)
  (ho : o.op = .call { callee := .builtin .append, args := #[s, x], argTypes := #[t, t] })
  (base : Nat) (e : TypeId) (i : TypeInfo) (z : Value) (size bytes : Nat) (ht : P.underlying t = some (.slice e)) (hi : P.info? e = some i) (hz : i.zero = some z)
  (hsize : i.size = size) (hby : i.bytes = bytes) (hzs : z.cells.size = size) (hsz : 0 < size)
  (v : Value) (n : Nat) (xs : List Value) (hs : a.eval s = v) (hown : W.ownsRow base e size v n xs)
  (hcs : cs.size = size) (hx : a.eval x = .slice (some ⟨N, 0, none⟩) 1 1) (h1 : cs.all (·.oneCell') = true)
  (hn : n + 1 ≤ 100000000) (hbytes : bytes ≤ 1000) (hbase : base ≤ W.heap.size)
  (h : ∀ g cap w', w'.ownsRow base e size (.slice (some ⟨g, 0, none⟩) (n + 1) cap) (n + 1) (xs ++ cs.toList) → (W.alloc (.cells cs e)).grownBy w' v.ownBlock → (v.ownBlock = some g ∨ g = W.heap.size + 1) → g < w'.heap.size →
   wpList P ops Q rest (a.put o.dst (.slice (some ⟨g, 0, none⟩) (n + 1) cap)) w') : wpList P ops Q (o :: rest) a (W.alloc (.cells cs e)) := by
 subst hN
 exact wpList_append_one W cs hgd s x t ho base e i z size bytes ht hi hz hsize hby hzs hsz v n xs hs hown hcs hx h1 hn hbytes hbase h
end
end
section
open Go.RowKit
def cutI (n lo hi : Int) : Int := lo + n.emod (hi - lo + 1)
theorem cutI_bd {n lo hi : Int} (h : lo ≤ hi) : lo ≤ cutI n lo hi ∧ cutI n lo hi ≤ hi := by
 unfold cutI
 have h1 := Int.emod_nonneg n (show hi - lo + 1 ≠ 0 by omega)
 have h2 := Int.emod_lt_of_pos n (show 0 < hi - lo + 1 by omega)
 show lo ≤ lo + n % (hi - lo + 1) ∧ lo + n % (hi - lo + 1) ≤ hi
 omega
theorem tmod_neg_case {n m : Int} (hm : 0 < m) (h : n.tmod m < 0) : n.tmod m + m = n % m := by
 have h1 := Int.emod_nonneg n (show m ≠ 0 by omega)
 have h2 := Int.emod_lt_of_pos n hm
 rw [Int.tmod_eq_emod] at *
 split at h <;> split <;> omega
theorem tmod_pos_case {n m : Int} (hm : 0 < m) (h : 0 ≤ n.tmod m) : n.tmod m = n % m := by
 have h1 := Int.emod_nonneg n (show m ≠ 0 by omega)
 have h2 := Int.emod_lt_of_pos n hm
 rw [Int.tmod_eq_emod] at *
 split at h <;> split <;> omega
set_option maxHeartbeats 400000 in
theorem Cut_any (n lo hi : Int) (w : World) (h1 : -1000000 ≤ lo) (h2 : lo ≤ hi) (h3 : hi ≤ 1000000) :
  Calls Tryz.prog 20 #[.int .i64 n, .int .i64 lo, .int .i64 hi] w fun e w' => e = .returned (.int .i64 (cutI n lo hi)) ∧ w = w' := by
 have hb1 := Int.emod_nonneg n (show hi - lo + 1 ≠ 0 by omega)
 have hb2 := Int.emod_lt_of_pos n (show 0 < hi - lo + 1 by omega)
 have hm : 0 < hi - lo + 1 := by omega
 by_cases hn : n.tmod (hi - lo + 1) < 0
 ·have e := tmod_neg_case hm hn
  have g1 : 0 ≤ n.tmod (hi - lo + 1) + (hi - lo + 1) := by omega
  have g2 : n.tmod (hi - lo + 1) + (hi - lo + 1) < 2000002 := by omega
  have H := Lib.hid e
  clear e hb1 hb2
  go_enter Tryz.func20, Tryz.ntmps20
  go_wp2
  go_ret
  exact ⟨ret_int (by rw [H.out]; rfl), rfl⟩
 ·have e := tmod_pos_case (n := n) hm (by omega)
  have g1 : 0 ≤ n.tmod (hi - lo + 1) := by omega
  have g2 : n.tmod (hi - lo + 1) < 2000002 := by omega
  have H := Lib.hid e
  clear e hb1 hb2
  go_enter Tryz.func20, Tryz.ntmps20
  go_wp2
  go_ret
  exact ⟨ret_int (by rw [H.out]; rfl), rfl⟩
end
section
open Go.RowKit
theorem mul_bd {a b m : Int} (ha : -m ≤ a ∧ a ≤ m) (hb : -m ≤ b ∧ b ≤ m) : -(m * m) ≤ a * b ∧ a * b ≤ m * m := by
 have h : (a * b).natAbs ≤ m.natAbs * m.natAbs := by
  rw [Int.natAbs_mul]
  exact Nat.mul_le_mul (by omega) (by omega)
 have hm : ((m.natAbs * m.natAbs : Nat) : Int) = m * m := by
  rw [Int.natCast_mul]
  have : (m.natAbs : Int) = m := by omega
  rw [this]
 omega
def ptE (x y : Int) : Int := if -1000000 ≤ x ∧ x ≤ 1000000 ∧ -1000000 ≤ y ∧ y ≤ 1000000 then 0 else 4
theorem ptE_cases (x y : Int) : ptE x y = 0 ∨ ptE x y = 4 := by unfold ptE; split <;> simp
theorem ptE_zero {x y : Int} (h : ptE x y = 0) : (-1000000 ≤ x ∧ x ≤ 1000000) ∧ -1000000 ≤ y ∧ y ≤ 1000000 := by
 unfold ptE at h
 split at h
 ·omega
 ·cases h
set_option maxRecDepth 100000 in
set_option maxHeartbeats 4000000 in
theorem PCheck_any (x y : Int) (w : World) : Calls Tryz.prog 76 #[.agg #[.int .i64 x, .int .i64 y]] w fun e w' => e = .returned (.int .i64 (ptE x y)) ∧ Below w.heap.size w w' := by
 have HE : Hid (ptE x y = if -1000000 ≤ x ∧ x ≤ 1000000 ∧ -1000000 ≤ y ∧ y ≤ 1000000 then 0 else 4) := Lib.hid rfl
 generalize ptE x y = r at *
 go_enter Tryz.func76, Tryz.ntmps76
 go_wp2
 all_goals
  go_ret
  refine ⟨?_, (Below.refl _ w).alloc (Nat.le_refl _) _⟩
  rw [HE.out]
  split
  all_goals first
   | rfl
   | (exfalso; omega)
abbrev Bd (m x : Int) : Prop := -m ≤ x ∧ x ≤ m
set_option maxRecDepth 100000 in
set_option maxHeartbeats 2000000 in
theorem Sub_any (a b c d : Int) (w : World) (h1 : Bd 10000000 a) (h2 : Bd 10000000 b) (h3 : Bd 10000000 c) (h4 : Bd 10000000 d) : Calls Tryz.prog 123 #[.agg #[.int .i64 a, .int .i64 b], .agg #[.int .i64 c, .int .i64 d]] w fun e w' => e = .returned (.agg #[.int .i64 (a - c), .int .i64 (b - d)]) ∧ Below w.heap.size w w' := by
 have w1 : IntKind.i64.wrap (a - c) = a - c := IntWalk.i64_in _ (by omega)
 have w2 : IntKind.i64.wrap (b - d) = b - d := IntWalk.i64_in _ (by omega)
 clear h1 h2 h3 h4
 go_enter Tryz.func123, Tryz.ntmps123
 go_wp2
 refine bodyPost_ret (v := .agg #[.int .i64 (a - c), .int .i64 (b - d)]) (by simp [results, Tryz.results123, go_sem]) rfl ⟨rfl, ?_⟩
 exact (((Below.refl _ w).alloc (Nat.le_refl _) _).alloc (by simp) _).alloc (by simp; omega) _
set_option maxRecDepth 100000 in
set_option maxHeartbeats 2000000 in
theorem Dot_any (a b c d : Int) (w : World) (h1 : Bd 10000000 a) (h2 : Bd 10000000 b) (h3 : Bd 10000000 c) (h4 : Bd 10000000 d) : Calls Tryz.prog 124 #[.agg #[.int .i64 a, .int .i64 b], .agg #[.int .i64 c, .int .i64 d]] w fun e w' => e = .returned (.int .i64 (a * c + b * d)) ∧ Below w.heap.size w w' := by
 have m1 := mul_bd h1 h3
 have m2 := mul_bd h2 h4
 have w1 : IntKind.i64.wrap (a * c) = a * c := IntWalk.i64_in _ (by omega)
 have w2 : IntKind.i64.wrap (b * d) = b * d := IntWalk.i64_in _ (by omega)
 have w3 : IntKind.i64.wrap (a * c + b * d) = a * c + b * d := IntWalk.i64_in _ (by omega)
 clear h1 h2 h3 h4 m1 m2
 go_enter Tryz.func124, Tryz.ntmps124
 go_wp2
 go_ret
 exact ⟨rfl, ((Below.refl _ w).alloc (Nat.le_refl _) _).alloc (by simp) _⟩
def sqI (a b c d : Int) : Int := (a - c) * (a - c) + (b - d) * (b - d)
set_option maxRecDepth 100000 in
set_option maxHeartbeats 2000000 in
theorem Square_any (a b c d : Int) (w : World) (h1 : Bd 1000000 a) (h2 : Bd 1000000 b) (h3 : Bd 1000000 c) (h4 : Bd 1000000 d) : Calls Tryz.prog 75 #[.agg #[.int .i64 a, .int .i64 b], .agg #[.int .i64 c, .int .i64 d]] w fun e w' => e = .returned (.int .i64 (sqI a b c d)) ∧ Below w.heap.size w w' := by
 have HS := Lib.hid (fun W => Sub_any a b c d W (by omega) (by omega) (by omega) (by omega))
 have HD := Lib.hid (fun W => Dot_any (a - c) (b - d) (a - c) (b - d) W (by omega) (by omega) (by omega) (by omega))
 have HR : Hid (sqI a b c d = (a - c) * (a - c) + (b - d) * (b - d)) := Lib.hid rfl
 clear h1 h2 h3 h4
 rw [← HR.out] at HD
 generalize sqI a b c d = r at *
 clear HR
 generalize a - c = p at *
 generalize b - d = q at *
 go_enter Tryz.func75, Tryz.ntmps75
 go_wp2_with (first
  | (go_at_call 123; go_loud (refine (HS.out _).mono ?_; rintro e w1 ⟨rfl, hb1⟩; have HB1 := Lib.hid ((((Below.refl _ w).alloc (Nat.le_refl _) _).alloc (by simp) _).trans (hb1.mono (by simp; omega))); clear hb1))
  | (go_at_call 124; go_loud (refine (HD.out _).mono ?_; rintro e w2 ⟨rfl, hb2⟩)))
 go_ret
 exact ⟨rfl, (HB1.out.alloc HB1.out.size _).trans (hb2.mono (by simp; have := HB1.out.size; omega))⟩
theorem mul_lt_sq {a b : Int} (ha : 0 ≤ a) (hb : 0 ≤ b) (h : a * a < b * b) : a < b := by
 rcases Int.lt_or_le a b with h1 | h1
 ·exact h1
 ·have := Int.mul_le_mul h1 h1 hb ha
  omega
def IsRoot (n r : Int) : Prop := 0 ≤ r ∧ r * r ≤ n ∧ n < (r + 1) * (r + 1) ∧ r ≤ 3037000499
set_option maxRecDepth 100000 in
set_option maxHeartbeats 4000000 in
theorem Root_any (n : Int) (w : World) (h0 : 0 ≤ n) (h1 : n ≤ 1000000000000000000) : Calls Tryz.prog 198 #[.int .i64 n] w fun e w' => (∃ r, e = .returned (.int .i64 r) ∧ IsRoot n r) ∧ w = w' := by
 by_cases hz : n = 0
 ·subst hz
  go_enter Tryz.func198, Tryz.ntmps198
  go_wp2
  go_ret
  exact ⟨⟨0, rfl, by unfold IsRoot; decide⟩, rfl⟩
 ·have hp : ¬ n ≤ 0 := by omega
  have hpd : decide (n ≤ 0) = false := decide_eq_false hp
  have HN := Lib.hid (And.intro h0 h1)
  clear hz hp h0 h1
  go_enter Tryz.func198, Tryz.ntmps198
  go_wp2
  go_loop [3, 4] (fun x y => ∃ lo hi : Int, x = .int .i64 lo ∧ y = .int .i64 hi ∧ Hid (0 ≤ lo ∧ lo ≤ hi ∧ hi ≤ 3037000499 ∧ lo * lo ≤ n ∧ n < (hi + 1) * (hi + 1))) (fun x y => (intOf y - intOf x).toNat)
  case atStart => exact ⟨0, 3037000499, rfl, rfl, Lib.hid ⟨by omega, by omega, by omega, by have := HN.out; omega, by have := HN.out; omega⟩⟩
  case round =>
   obtain ⟨lo, hi, rfl, rfl, HI⟩ := hrel
   have hI := HI.out
   by_cases hlt : lo < hi
   ·obtain ⟨m, hm, hm1, hm2⟩ : ∃ m : Int, lo + (hi - lo + 1).tdiv 2 = m ∧ lo < m ∧ m ≤ hi := ⟨_, rfl, by rw [Int.tdiv_eq_ediv_of_nonneg (by omega)]; omega, by rw [Int.tdiv_eq_ediv_of_nonneg (by omega)]; omega⟩
    have w1 : IntKind.i64.wrap (hi - lo) = hi - lo := IntWalk.i64_in _ (by omega)
    have w2 : IntKind.i64.wrap (hi - lo + 1) = hi - lo + 1 := IntWalk.i64_in _ (by omega)
    have w3 : IntKind.i64.wrap ((hi - lo + 1).tdiv 2) = (hi - lo + 1).tdiv 2 := IntWalk.i64_in _ (by omega)
    have w4 : IntKind.i64.wrap (lo + (hi - lo + 1).tdiv 2) = m := by rw [hm]; exact IntWalk.i64_in _ (by omega)
    have hmm := mul_bd (m := 3037000499) (a := m) (b := m) (by omega) (by omega)
    have w5 : IntKind.i64.wrap (m * m) = m * m := IntWalk.i64_in _ (by omega)
    have w6 : IntKind.i64.wrap (m - 1) = m - 1 := IntWalk.i64_in _ (by omega)
    have w7 : ((hi - lo + 1) == -9223372036854775808) = false := beq_eq_false_iff_ne.2 (by omega)
    have dl : decide (lo < hi) = true := decide_eq_true hlt
    have HM := Lib.hid (And.intro hm1 hm2)
    by_cases hc : m * m ≤ n
    ·have hcd : decide (m * m ≤ n) = true := decide_eq_true hc
     have HC := Lib.hid hc
     clear hm1 hm2 hmm hlt hI hc hm
     go_wp2
     go_round
     case rel => exact ⟨m, hi, rfl, rfl, Lib.hid (by have a := HM.out; have b := HI.out; have c := HC.out; exact ⟨by omega, by omega, by omega, c, b.2.2.2.2⟩)⟩
     case measure => have a := HM.out; simp [intOf]; omega
    ·have hcd : decide (m * m ≤ n) = false := decide_eq_false hc
     have HC := Lib.hid hc
     clear hm1 hm2 hmm hlt hI hc hm
     go_wp2
     go_round
     case rel => exact ⟨lo, m - 1, rfl, rfl, Lib.hid (by have a := HM.out; have b := HI.out; have c := HC.out; exact ⟨by omega, by omega, by omega, b.2.2.2.1, by rw [show m - 1 + 1 = m by omega]; omega⟩)⟩
     case measure => have a := HM.out; simp [intOf]; omega
   ·obtain rfl : lo = hi := by omega
    have dl : decide (lo < lo) = false := decide_eq_false (by omega)
    clear hlt hI
    go_wp2
    go_ret
    have b := HI.out
    exact ⟨⟨lo, rfl, b.1, b.2.2.2.1, b.2.2.2.2, b.2.2.1⟩, rfl⟩
theorem root_ge {n r d : Int} (h : IsRoot n r) (hd : 0 ≤ d) : d ≤ r ↔ d * d ≤ n := by
 obtain ⟨h0, h1, h2, _⟩ := h
 constructor
 ·intro h
  exact Int.le_trans (Int.mul_le_mul h h hd h0) h1
 ·intro h
  have := mul_lt_sq hd (show 0 ≤ r + 1 by omega) (by omega)
  omega
set_option maxRecDepth 100000 in
set_option maxHeartbeats 4000000 in
theorem Distance_any (a b c d : Int) (w : World) (h1 : Bd 1000000 a) (h2 : Bd 1000000 b) (h3 : Bd 1000000 c) (h4 : Bd 1000000 d) : Calls Tryz.prog 164 #[.agg #[.int .i64 a, .int .i64 b], .agg #[.int .i64 c, .int .i64 d]] w fun e w' => (∃ r s, e = .returned (.tuple #[.int .i64 r, .int .i64 s]) ∧ IsRoot (sqI a b c d) r) ∧ Below w.heap.size w w' := by
 have HS := Lib.hid (fun W => Square_any a b c d W h1 h2 h3 h4)
 have m1 := mul_bd (m := 2000000) (a := a - c) (b := a - c) (by omega) (by omega)
 have m2 := mul_bd (m := 2000000) (a := b - d) (b := b - d) (by omega) (by omega)
 have m3 : 0 ≤ (a - c) * (a - c) := by
  rcases Int.le_total 0 (a - c) with h | h
  ·exact Int.mul_nonneg h h
  ·exact Int.mul_nonneg_of_nonpos_of_nonpos h h
 have m4 : 0 ≤ (b - d) * (b - d) := by
  rcases Int.le_total 0 (b - d) with h | h
  ·exact Int.mul_nonneg h h
  ·exact Int.mul_nonneg_of_nonpos_of_nonpos h h
 have HR := Lib.hid (fun W => Root_any (sqI a b c d) W (by unfold sqI; omega) (by unfold sqI; omega))
 generalize sqI a b c d = n at *
 clear h1 h2 h3 h4 m1 m2 m3 m4
 go_enter Tryz.func164, Tryz.ntmps164
 go_wp2_with (first
  | (go_at_call 75; go_loud (refine (HS.out _).mono ?_; rintro e w1 ⟨rfl, hb1⟩; have HB1 := Lib.hid ((((Below.refl _ w).alloc (Nat.le_refl _) _).alloc (by simp) _).trans (hb1.mono (by simp; omega))); clear hb1))
  | (go_at_call 198; go_loud (refine (HR.out _).mono ?_; rintro e w2 ⟨⟨r, rfl, hr⟩, rfl⟩; have HRt := Lib.hid hr; clear hr)))
 all_goals
  go_ret2
  exact ⟨⟨_, _, rfl, HRt.out⟩, HB1.out⟩
end
section
structure Nd where
 t : Int
 x : Int
 y : Int
 h : Int
 r : Int
 b : Int
instance : Inhabited Nd := ⟨⟨0, 0, 0, 0, 0, 0⟩⟩
abbrev Tu := List Nd
def ndV (n : Nd) : List Value := [.int .i64 n.t, .int .i64 n.x, .int .i64 n.y, .int .i64 n.h, .int .i64 n.r, .int .i64 n.b]
theorem ndV_len (n : Nd) : (ndV n).length = 6 := rfl
def ndA (n : Nd) : Value := .agg #[.int .i64 n.t, .int .i64 n.x, .int .i64 n.y, .int .i64 n.h, .int .i64 n.r, .int .i64 n.b]
def firstC (f : Nat → Int) : Nat → Nat → Int
 | _, 0 => 0
 | i, k + 1 => if f i = 0 then firstC f (i + 1) k else f i
theorem firstC_zero {f : Nat → Int} : ∀ {k i : Nat}, firstC f i k = 0 → ∀ j, i ≤ j → j < i + k → f j = 0
 | 0, i, _, j, h1, h2 => by omega
 | k + 1, i, h, j, h1, h2 => by
  unfold firstC at h
  split at h
  ·rename_i h0
   by_cases e : j = i
   ·rw [e]; exact h0
   ·exact firstC_zero h j (by omega) (by omega)
  ·rename_i h0; exact absurd h h0
theorem firstC_all {f : Nat → Int} : ∀ (k i : Nat), (∀ j, i ≤ j → j < i + k → f j = 0) → firstC f i k = 0
 | 0, i, _ => rfl
 | k + 1, i, h => by
  unfold firstC
  rw [if_pos (h i (Nat.le_refl _) (by omega))]
  exact firstC_all k (i + 1) (fun j h1 h2 => h j (by omega) (by omega))
def ndE (l : Tu) (i : Nat) : Int :=
 if (l[i]!).t < 0 ∨ 200000 < (l[i]!).t ∨ (0 < i ∧ (l[i]!).t ≤ (l[i - 1]!).t) then 12
 else if ptE (l[i]!).x (l[i]!).y ≠ 0 then 4
 else if (l[i]!).h < 0 ∨ 60000 < (l[i]!).h ∨ (l[i]!).r < 0 ∨ 1000000 < (l[i]!).r ∨ (l[i]!).b < 0 ∨ 60000 < (l[i]!).b then 4 else 0
def tuE (l : Tu) : Int := if 64 < l.length then 2 else if l.length = 0 then 3 else firstC (ndE l) 0 l.length
structure NdOk (n : Nd) : Prop where
 t0 : 0 ≤ n.t
 t1 : n.t ≤ 200000
 x0 : -1000000 ≤ n.x
 x1 : n.x ≤ 1000000
 y0 : -1000000 ≤ n.y
 y1 : n.y ≤ 1000000
 h0 : 0 ≤ n.h
 h1 : n.h ≤ 60000
 r0 : 0 ≤ n.r
 r1 : n.r ≤ 1000000
 b0 : 0 ≤ n.b
 b1 : n.b ≤ 60000
structure TuOk (l : Tu) : Prop where
 n0 : 0 < l.length
 n1 : l.length ≤ 64
 nd : ∀ i, i < l.length → NdOk l[i]!
 up : ∀ i, 0 < i → i < l.length → (l[i - 1]!).t < (l[i]!).t
theorem ndE_zero {l : Tu} {i : Nat} (h : ndE l i = 0) : NdOk l[i]! ∧ (0 < i → (l[i - 1]!).t < (l[i]!).t) := by
 unfold ndE at h
 by_cases h1 : (l[i]!).t < 0 ∨ 200000 < (l[i]!).t ∨ (0 < i ∧ (l[i]!).t ≤ (l[i - 1]!).t)
 ·rw [if_pos h1] at h; cases h
 rw [if_neg h1] at h
 by_cases h2 : ptE (l[i]!).x (l[i]!).y ≠ 0
 ·rw [if_pos h2] at h; cases h
 rw [if_neg h2] at h
 by_cases h3 : (l[i]!).h < 0 ∨ 60000 < (l[i]!).h ∨ (l[i]!).r < 0 ∨ 1000000 < (l[i]!).r ∨ (l[i]!).b < 0 ∨ 60000 < (l[i]!).b
 ·rw [if_pos h3] at h; cases h
 have h4 : -1000000 ≤ (l[i]!).x ∧ (l[i]!).x ≤ 1000000 ∧ -1000000 ≤ (l[i]!).y ∧ (l[i]!).y ≤ 1000000 := by
  unfold ptE at h2
  by_cases hp : -1000000 ≤ (l[i]!).x ∧ (l[i]!).x ≤ 1000000 ∧ -1000000 ≤ (l[i]!).y ∧ (l[i]!).y ≤ 1000000
  ·exact hp
  ·rw [if_neg hp] at h2; exact absurd (by decide) h2
 exact ⟨⟨by omega, by omega, by omega, by omega, by omega, by omega, by omega, by omega, by omega, by omega, by omega, by omega⟩, fun h0 => by omega⟩
theorem ndE_ok {l : Tu} {i : Nat} (h : NdOk l[i]!) (hu : 0 < i → (l[i - 1]!).t < (l[i]!).t) : ndE l i = 0 := by
 unfold ndE
 have h4 := h.x0; have h5 := h.x1; have h6 := h.y0; have h7 := h.y1
 rw [if_neg, if_neg, if_neg]
 ·have := h.h0; have := h.h1; have := h.r0; have := h.r1; have := h.b0; have := h.b1
  omega
 ·unfold ptE; rw [if_pos ⟨h4, h5, h6, h7⟩]; simp
 ·have := h.t0; have := h.t1
  rintro (h | h | ⟨h1, h2⟩)
  ·omega
  ·omega
  ·have := hu h1; omega
theorem tuOk_of {l : Tu} (h : tuE l = 0) : TuOk l := by
 unfold tuE at h
 by_cases h1 : 64 < l.length
 ·rw [if_pos h1] at h; cases h
 rw [if_neg h1] at h
 by_cases h2 : l.length = 0
 ·rw [if_pos h2] at h; cases h
 rw [if_neg h2] at h
 have h3 := firstC_zero h
 exact ⟨by omega, by omega, fun i hi => (ndE_zero (h3 i (by omega) (by omega))).1, fun i h0 hi => (ndE_zero (h3 i (by omega) (by omega))).2 h0⟩
theorem TuOk.e {l : Tu} (h : TuOk l) : tuE l = 0 := by
 unfold tuE
 have := h.n0; have := h.n1
 rw [if_neg (by omega), if_neg (by omega)]
 exact firstC_all _ _ (fun j _ hj => ndE_ok (h.nd j (by omega)) (fun h0 => h.up j h0 (by omega)))
theorem TuOk.lt {l : Tu} (h : TuOk l) : ∀ (j i : Nat), i < j → j < l.length → (l[i]!).t < (l[j]!).t
 | 0, i, h1, _ => by omega
 | j + 1, i, h1, h2 => by
  have h3 := h.up (j + 1) (by omega) h2
  rw [Nat.add_sub_cancel] at h3
  by_cases e : i = j
  ·rw [e]; exact h3
  ·have := TuOk.lt h j i (by omega) (by omega); omega
def lowT (l : Tu) (t : Int) : Nat := l.countP fun n => decide (n.t < t)
def fstT (l : Tu) : Int := (l[0]!).t
def lstT (l : Tu) : Int := (l[l.length - 1]!).t
theorem lowT_spec {l : Tu} (h : TuOk l) (t : Int) : (∀ i, i < lowT l t → (l[i]!).t < t) ∧ (∀ i, lowT l t ≤ i → i < l.length → t ≤ (l[i]!).t) := by
 have hs : ∀ (l : Tu), (∀ i j : Nat, i < j → j < l.length → (l[i]!).t < (l[j]!).t) → (∀ i, i < lowT l t → (l[i]!).t < t) ∧ (∀ i, lowT l t ≤ i → i < l.length → t ≤ (l[i]!).t) := by
  intro l
  induction l with
  | nil => intro _; exact ⟨fun i hi => by simp [lowT] at hi, fun i _ hi => by simp at hi⟩
  | cons a r ih =>
   intro hl
   have hr := ih (fun i j h1 h2 => by have := hl (i + 1) (j + 1) (by omega) (by simp; omega); simpa using this)
   have ha : ∀ j, j < r.length → a.t < (r[j]!).t := fun j hj => by have := hl 0 (j + 1) (by omega) (by simp; omega); simpa using this
   by_cases e : a.t < t
   ·have el : lowT (a :: r) t = lowT r t + 1 := by unfold lowT; rw [List.countP_cons_of_pos (by simpa using e)]
    rw [el]
    refine ⟨fun i hi => ?_, fun i h1 h2 => ?_⟩
    ·cases i with
     | zero => simpa using e
     | succ i => have := hr.1 i (by omega); simpa using this
    ·cases i with
     | zero => omega
     | succ i => have := hr.2 i (by omega) (by simp at h2; omega); simpa using this
   ·have el : lowT (a :: r) t = 0 := by
     unfold lowT
     rw [List.countP_eq_zero]
     intro b hb
     rcases List.mem_cons.1 hb with rfl | hb
     ·simpa using e
     ·obtain ⟨j, hj, rfl⟩ := List.getElem_of_mem hb
      have := ha j hj
      rw [getElem!_pos r j hj] at this
      simp; omega
    rw [el]
    refine ⟨fun i hi => by omega, fun i _ h2 => ?_⟩
    cases i with
    | zero => simp; omega
    | succ i => have h5 := ha i (by simp at h2; omega); rw [List.getElem!_cons_succ]; omega
 exact hs l (fun i j h1 h2 => h.lt j i h1 h2)
def upD (a b : Int) : Int := -((-a) / b)
def mixN (a b : Nd) (t : Int) : Nd := ⟨t, a.x + (b.x - a.x) * (t - a.t) / (b.t - a.t), a.y + (b.y - a.y) * (t - a.t) / (b.t - a.t), a.h + (b.h - a.h) * (t - a.t) / (b.t - a.t), a.r + upD ((b.r - a.r) * (t - a.t)) (b.t - a.t), a.b + upD ((b.b - a.b) * (t - a.t)) (b.t - a.t)⟩
def atN (l : Tu) (t : Int) : Nd := if (l[lowT l t]!).t = t then l[lowT l t]! else mixN l[lowT l t - 1]! l[lowT l t]! t
def tubeAt (l : Tu) (t : Int) : Nd × Int := if tuE l ≠ 0 then (default, tuE l) else if t < fstT l ∨ lstT l < t then (default, 12) else (atN l t, 0)
end
end Go.Proofs.YtaebebpldkciiaaGreatDoor
