/- The node of a track: RulesNear's closure. -/
import Derived.Test.YtdmecagdjbjgjaaR12
namespace Go.Proofs.Ytdmecagdjbjgjaa
open Go.RowKit

/-- A track: ID, State, Time, At, Speed, Height, Rate, Radius, Code, Hits, Misses. -/
structure Tr where
  id : Int
  st : Int
  tm : Int
  x : Int
  y : Int
  u : Int
  v : Int
  h : Int
  rt : Int
  rd : Int
  cd : Int
  hi : Int
  ms : Int
deriving Inhabited
def trL (t : Tr) : List Value := [.int .i64 t.id, .int .i64 t.st, .int .i64 t.tm, .int .i64 t.x, .int .i64 t.y, .int .i64 t.u, .int .i64 t.v, .int .i64 t.h, .int .i64 t.rt, .int .i64 t.rd, .int .i64 t.cd, .int .i64 t.hi, .int .i64 t.ms]
def trV (t : Tr) : Value := .agg #[.int .i64 t.id, .int .i64 t.st, .int .i64 t.tm, .int .i64 t.x, .int .i64 t.y, .int .i64 t.u, .int .i64 t.v, .int .i64 t.h, .int .i64 t.rt, .int .i64 t.rd, .int .i64 t.cd, .int .i64 t.hi, .int .i64 t.ms]

set_option maxRecDepth 100000 in
set_option maxHeartbeats 8000000 in
theorem node_any (t : Tr) (w : World) : Calls Try.prog 11 #[trV t] w fun E w' => E = .returned (.agg #[.int .i64 0, .int .i64 t.x, .int .i64 t.y, .int .i64 t.h, .int .i64 0, .int .i64 0]) ∧ Below w.heap.size w w' := by
  unfold trV
  go_enter Try.func11, Try.ntmps11
  go_wp2
  refine bodyPost_ret (v := .agg #[.int .i64 0, .int .i64 t.x, .int .i64 t.y, .int .i64 t.h, .int .i64 0, .int .i64 0]) (by simp [results, Try.results11, go_sem]) rfl ⟨rfl, ?_⟩
  first
    | exact ((Below.refl _ w).alloc (Nat.le_refl _) _).alloc (by simp) _
    | (trace_state; fail)
end Go.Proofs.Ytdmecagdjbjgjaa
