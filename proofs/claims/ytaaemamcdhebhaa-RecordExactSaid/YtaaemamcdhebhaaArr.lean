/- '==' of two arrays of whole numbers. Nothing here names the program. -/
import Derived.Test.YtaaemamcdhebhaaWWords
import Derived.Test.YtaaemamcdhebhaaWEqStruct
namespace Go.Proofs.Ytaaemamcdhebhaa.Arr
open Go.RowKit Go.Proofs.YtaaemamcdhebhaaW.PrintWords
theorem part_int {P : Program} {e : TypeId} {k : IntKind} (he : P.underlying e = some (.int k)) (cs : Array Value) (i : Nat) (v : Value) (h : cs[i]? = some v) (w : World) : (part e cs i).run P w = .ok v w := by
  simp [part, isAgg, run_underlying he, h]
theorem eq_int {P : Program} {e : TypeId} {k : IntKind} (he : P.underlying e = some (.int k)) (d : Nat) (x y : Int) (w : World) : (Op.equalIn (d + 1) e (.int k x) (.int k y)).run P w = .ok (x == y) w := by
  simp [Op.equalIn, run_underlying he]
theorem loop {P : Program} {e : TypeId} {k : IntKind} (he : P.underlying e = some (.int k)) (xs ys : Array Value) (f g : Nat → Int) (d : Nat) : ∀ (l : List Nat), (∀ i ∈ l, xs[i]? = some (.int k (f i)) ∧ ys[i]? = some (.int k (g i))) → ∀ w,
    Sem.run P (forIn l ((none : Option Bool), ()) fun i _ => do
            let a ← part e xs i
            let b ← part e ys i
            let c ← Op.equalIn (d + 1) e a b
            if c = false then pure (ForInStep.done (some false, ())) else pure (ForInStep.yield (none, ()))) w = Result.ok (if l.all (fun i => f i == g i) = true then (none, ()) else (some false, ())) w := by
  intro l
  induction l with
  | nil => intro _ w; simp
  | cons i l ih =>
    intro h w
    obtain ⟨h1, h2⟩ := h i (List.mem_cons_self ..)
    have h3 := ih (fun j hj => h j (List.mem_cons_of_mem _ hj)) w
    rw [List.forIn_cons]
    simp only [Sem.run_bind, part_int he xs i _ h1, part_int he ys i _ h2, eq_int he, Result.andThen_ok]
    cases hq : f i == g i
    · simp [hq]
    · simp only [List.all_cons, hq, Bool.true_and]
      rw [← h3]
      simp
theorem eq8 {P : Program} {t e : TypeId} {i : TypeInfo} (hu : P.underlying t = some (.array 8 e)) (he : P.underlying e = some (.int .i64)) (hi : P.info? e = some i) (hsz : i.size = 1) (d : Nat) (w : World) (x0 y0 x1 y1 x2 y2 x3 y3 x4 y4 x5 y5 x6 y6 x7 y7 : Int) :
    (Op.equalIn (d + 2) t (.agg #[.int .i64 x0, .int .i64 x1, .int .i64 x2, .int .i64 x3, .int .i64 x4, .int .i64 x5, .int .i64 x6, .int .i64 x7]) (.agg #[.int .i64 y0, .int .i64 y1, .int .i64 y2, .int .i64 y3, .int .i64 y4, .int .i64 y5, .int .i64 y6, .int .i64 y7])).run P w = .ok (x0 == y0 && (x1 == y1 && (x2 == y2 && (x3 == y3 && (x4 == y4 && (x5 == y5 && (x6 == y6 && (x7 == y7)))))))) w := by
  rw [Op.equalIn]
  simp only [Sem.run_bind, run_underlying hu, Result.andThen_ok]
  have hs : (Go.sizeOf e).run P w = .ok 1 w := by simp [Go.sizeOf, typeInfo, hi, hsz]
  simp only [hs, Result.andThen_ok]
  simp
  rw [show List.range' 0 8 = [0, 1, 2, 3, 4, 5, 6, 7] from rfl]
  have h := loop he #[.int .i64 x0, .int .i64 x1, .int .i64 x2, .int .i64 x3, .int .i64 x4, .int .i64 x5, .int .i64 x6, .int .i64 x7] #[.int .i64 y0, .int .i64 y1, .int .i64 y2, .int .i64 y3, .int .i64 y4, .int .i64 y5, .int .i64 y6, .int .i64 y7] (fun i => [x0, x1, x2, x3, x4, x5, x6, x7].getD i 0) (fun i => [y0, y1, y2, y3, y4, y5, y6, y7].getD i 0) d [0, 1, 2, 3, 4, 5, 6, 7] (by
    intro i hi
    simp only [List.mem_cons, List.not_mem_nil, or_false] at hi
    rcases hi with rfl | rfl | rfl | rfl | rfl | rfl | rfl | rfl <;> exact ⟨rfl, rfl⟩) w
  rw [h]
  have e : ([0, 1, 2, 3, 4, 5, 6, 7].all fun i => [x0, x1, x2, x3, x4, x5, x6, x7].getD i 0 == [y0, y1, y2, y3, y4, y5, y6, y7].getD i 0) = (x0 == y0 && (x1 == y1 && (x2 == y2 && (x3 == y3 && (x4 == y4 && (x5 == y5 && (x6 == y6 && x7 == y7))))))) := by
    simp only [List.all_cons, List.all_nil, Bool.and_true]
    rfl
  rw [e]
  cases (x0 == y0 && (x1 == y1 && (x2 == y2 && (x3 == y3 && (x4 == y4 && (x5 == y5 && (x6 == y6 && x7 == y7)))))))
  · simp
  · simp
end Go.Proofs.Ytaaemamcdhebhaa.Arr
