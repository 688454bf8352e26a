/- The library's sorting at squares, laid at this seat. -/
import Derived.Test.YtmjaefnmianfpaaQKw
import Derived.Test.YtmjaefnmianfpaaQPsort
import Derived.Test.YtmjaefnmianfpaaQZe
import Derived.Test.YtmjaefnmianfpaaQT
import Derived.WalkKit
import Derived.Shelf.Lay
namespace Go.Proofs.Ytmjaefnmianfpaa
open Go Go.RowKit Go.Shelf Go.Sort Go.Lib
set_option maxRecDepth 10000

def sortSq_ren : Go.Shelf.Ren := ⟨fun | 6 => 125 | 15 => 148 | 14 => 147 | 28 => 170 | 29 => 171 | 20 => 162 | 21 => 163 | 22 => 164 | 23 => 165 | 24 => 166 | 25 => 167 | 26 => 168 | 27 => 169 | 46 => 175 | 47 => 176 | 48 => 177 | 49 => 178 | 50 => 179 | 57 => 181 | n => n, fun | 22 => 33 | 24 => 118 | 25 => 126 | 3 => 3 | 39 => 137 | 0 => 0 | 53 => 153 | 55 => 155 | 4 => 4 | 46 => 147 | 45 => 146 | 50 => 25 | 5 => 5 | 9 => 9 | 66 => 159 | 70 => 163 | 76 => 165 | 77 => 166 | n => n, fun | n => n⟩
theorem sortSq : Go.Proofs.SlLaysF0.n6 Try.prog sortSq_ren := {
  mixed := by kernel_rfl,
  f6 := ⟨Try.f125.name, by decide, Try.func125.trans (congrArg some (by kernel_rfl))⟩,
  f14 := ⟨Try.f147.name, by decide, Try.func147.trans (congrArg some (by kernel_rfl))⟩,
  f15 := Try.func148.trans (congrArg some (by kernel_rfl)),
  f20 := ⟨Try.f162.name, by decide, Try.func162.trans (congrArg some (by kernel_rfl))⟩,
  f21 := ⟨Try.f163.name, by decide, Try.func163.trans (congrArg some (by kernel_rfl))⟩,
  f22 := ⟨Try.f164.name, by decide, Try.func164.trans (congrArg some (by kernel_rfl))⟩,
  f23 := ⟨Try.f165.name, by decide, Try.func165.trans (congrArg some (by kernel_rfl))⟩,
  f24 := ⟨Try.f166.name, by decide, Try.func166.trans (congrArg some (by kernel_rfl))⟩,
  f25 := ⟨Try.f167.name, by decide, Try.func167.trans (congrArg some (by kernel_rfl))⟩,
  f26 := ⟨Try.f168.name, by decide, Try.func168.trans (congrArg some (by kernel_rfl))⟩,
  f27 := ⟨Try.f169.name, by decide, Try.func169.trans (congrArg some (by kernel_rfl))⟩,
  f28 := Try.func170.trans (congrArg some (by kernel_rfl)),
  f29 := Try.func171.trans (congrArg some (by kernel_rfl)),
  f46 := ⟨Try.f175.name, by decide, Try.func175.trans (congrArg some (by kernel_rfl))⟩,
  f47 := Try.func176.trans (congrArg some (by kernel_rfl)),
  f48 := Try.func177.trans (congrArg some (by kernel_rfl)),
  f49 := ⟨Try.f178.name, by decide, Try.func178.trans (congrArg some (by kernel_rfl))⟩,
  f50 := ⟨Try.f179.name, by decide, Try.func179.trans (congrArg some (by kernel_rfl))⟩,
  f57 := ⟨Try.f181.name, by decide, Try.func181.trans (congrArg some (by kernel_rfl))⟩,
  t0 := Try.underlying0,
  a0 := Try.isAgg0,
  z0 := Try.sizeOf0,
  v0 := Try.zeroValue0,
  t3 := Try.underlying3,
  a3 := Try.isAgg3,
  z3 := Try.sizeOf3,
  v3 := Try.zeroValue3,
  t4 := Try.underlying4,
  a4 := Try.isAgg4,
  z4 := Try.sizeOf4,
  v4 := Try.zeroValue4,
  t5 := Try.underlying5,
  a5 := Try.isAgg5,
  z5 := Try.sizeOf5,
  v5 := Try.zeroValue5,
  t9 := Try.underlying9,
  a9 := Try.isAgg9,
  z9 := Try.sizeOf9,
  v9 := Try.zeroValue9,
  t22 := Try.underlying33,
  a22 := Try.isAgg33,
  z22 := Try.sizeOf33,
  v22 := Try.zeroValue33,
  t25 := Try.underlying126,
  a25 := Try.isAgg126,
  z25 := Try.sizeOf126,
  v25 := Try.zeroValue126,
  t39 := Try.underlying137,
  a39 := Try.isAgg137,
  z39 := Try.sizeOf137,
  v39 := Try.zeroValue137,
  t45 := Try.underlying146,
  a45 := Try.isAgg146,
  z45 := Try.sizeOf146,
  v45 := Try.zeroValue146,
  t46 := Try.underlying147,
  a46 := Try.isAgg147,
  z46 := Try.sizeOf147,
  v46 := Try.zeroValue147,
  t50 := Try.underlying25,
  a50 := Try.isAgg25,
  z50 := Try.sizeOf25,
  v50 := Try.zeroValue25,
  t53 := Try.underlying153,
  a53 := Try.isAgg153,
  z53 := Try.sizeOf153,
  v53 := Try.zeroValue153,
  t55 := Try.underlying155,
  a55 := Try.isAgg155,
  z55 := Try.sizeOf155,
  v55 := Try.zeroValue155,
  t66 := Try.underlying159,
  a66 := Try.isAgg159,
  z66 := Try.sizeOf159,
  v66 := Try.zeroValue159,
  t70 := Try.underlying163,
  a70 := Try.isAgg163,
  z70 := Try.sizeOf163,
  v70 := Try.zeroValue163,
  t76 := Try.underlying165,
  a76 := Try.isAgg165,
  z76 := Try.sizeOf165,
  v76 := Try.zeroValue165,
  t77 := Try.underlying166,
  a77 := Try.isAgg166,
  z77 := Try.sizeOf166,
  v77 := Try.zeroValue166 }


/-- A square of numbers that are not too great. -/
@[reducible] def okSq (a : Int × Int × Int) : Prop := (-1000000 ≤ a.1 ∧ a.1 ≤ 1000000) ∧ (-1000000 ≤ a.2.1 ∧ a.2.1 ≤ 1000000) ∧ (-9223372036854775808 ≤ a.2.2 ∧ a.2.2 ≤ 9223372036854775807)

abbrev Sq := { a : Int × Int × Int // okSq a }

instance : Inhabited Sq := ⟨⟨(0, 0, 0), by decide⟩⟩

def encSq (a : Sq) : List Value := [.int .i64 a.1.1, .int .i64 a.1.2.1, .int .i64 a.1.2.2]

theorem encSq_len (a : Sq) : (encSq a).length = 3 := rfl

theorem encSq_one (a : Sq) : ∀ v ∈ encSq a, v.oneCell' = true := by
  intro v hv
  simp [encSq] at hv
  rcases hv with rfl | rfl | rfl <;> rfl

theorem encD_sq (a : Sq) : encD encSq a = r3 a.1 := rfl

theorem wrap_okx {a b : Sq} : IntKind.i64.wrap (a.1.1 - b.1.1) = a.1.1 - b.1.1 := by
  obtain ⟨h1, h2, h3⟩ := a.2
  obtain ⟨g1, g2, g3⟩ := b.2
  exact wrap_i64 _ (by omega) (by omega)

theorem wrap_oky {a b : Sq} : IntKind.i64.wrap (a.1.2.1 - b.1.2.1) = a.1.2.1 - b.1.2.1 := by
  obtain ⟨h1, h2, h3⟩ := a.2
  obtain ⟨g1, g2, g3⟩ := b.2
  exact wrap_i64 _ (by omega) (by omega)

/-- What the order by X, then by Y gives. -/
def cfXY (a b : Sq) : Int := if a.1.1 = b.1.1 then a.1.2.1 - b.1.2.1 else a.1.1 - b.1.1

set_option maxHeartbeats 1000000 in
theorem fillCmp (x y : Sq) (W : World) : Calls Try.prog 126 #[.agg #[.int .i64 x.1.1, .int .i64 x.1.2.1, .int .i64 x.1.2.2], .agg #[.int .i64 y.1.1, .int .i64 y.1.2.1, .int .i64 y.1.2.2]] W fun e w' => e = .returned (.int .i64 (cfXY x y)) ∧ ∃ q os', w' = grow (W.drewN q) os' := by
  have hx := wrap_okx (a := x) (b := y)
  have hy := wrap_oky (a := x) (b := y)
  obtain ⟨⟨x1, x2, x3⟩, hx0⟩ := x
  obtain ⟨⟨y1, y2, y3⟩, hy0⟩ := y
  unfold cfXY
  dsimp only at hx hy ⊢
  obtain ⟨r, hr⟩ : ∃ r, r = (if x1 = y1 then x2 - y2 else x1 - y1) := ⟨_, rfl⟩
  rw [← hr]
  have hr1 : x1 = y1 → x2 - y2 = r := fun h => by rw [hr, if_pos h]
  have hr2 : x1 ≠ y1 → x1 - y1 = r := fun h => by rw [hr, if_neg h]
  clear hr
  go_enter Try.func126, Try.ntmps126
  go_wp2
  all_goals
    go_ret
    refine ⟨?_, 0, _, by rw [alloc_eq_grow, alloc_eq_grow, grow_grow]; rfl⟩
    rename_i hc
    first
      | exact congrArg (fun z => Ending.returned (Value.int .i64 z)) (hr1 (by simpa using hc))
      | exact congrArg (fun z => Ending.returned (Value.int .i64 z)) (hr2 (by simpa using hc))

theorem ltOf_XY (a b : Sq) : ltOf cfXY a b = ltXY a.1 b.1 := by
  unfold ltOf cfXY ltXY
  by_cases h : a.1.1 = b.1.1
  · rw [if_pos h]
    simp only [h, Int.lt_irrefl, decide_false, Bool.false_or, beq_self_eq_true, Bool.true_and]
    congr 1
    apply propext
    omega
  · rw [if_neg h]
    have : (a.1.1 == b.1.1) = false := by simpa using h
    rw [this, Bool.false_and, Bool.or_false]
    congr 1
    apply propext
    omega

theorem swoXY : SWO (ltOf cfXY) where
  irrefl x := by rw [ltOf_XY]; simp [ltXY]
  trans x y z h1 h2 := by rw [ltOf_XY] at *; exact ltXY_trans _ _ _ h1 h2
  ntrans x y z h1 h2 := by rw [ltOf_XY] at *; exact ltXY_ntrans _ _ _ h1 h2

theorem enterable_of {P : Program} {f : FuncId} {fn : Func} {cd : Code} (hf : P.funcs[f]? = some fn) (hb : fn.body = some cd) (hname : (fn.name != "runtime.NumGoroutine") = true) : enterable P f = true := by
  unfold enterable; rw [hf]; simp only [hb, hname]; rfl

/-- Squares with numbers that are not too great, as elements. -/
def asSq (l : List (Int × Int × Int)) (h : ∀ x ∈ l, okSq x) : List Sq := l.attach.map fun x => ⟨x.1, h x.1 x.2⟩

theorem asSq_val (l : List (Int × Int × Int)) (h : ∀ x ∈ l, okSq x) : (asSq l h).map (·.1) = l := by
  unfold asSq
  rw [List.map_map]
  exact List.attach_map_subtype_val l

theorem asSq_r3 (l : List (Int × Int × Int)) (h : ∀ x ∈ l, okSq x) : (asSq l h).map (encD encSq) = l.map r3 := by
  conv => rhs; rw [← asSq_val l h, List.map_map]
  rfl

/-- Squares put in order by X, then by Y, by the library. -/
theorem sortXY_min (l : List (Int × Int × Int)) (hok : ∀ x ∈ l, okSq x) (hpos : 0 < l.length) (hlen : l.length ≤ 2 ^ 40) (n : Nat) (cap : Option Nat) (hn : n = l.length) :
    CallX G.P 125 [.c (.sl 0 0 3 0 n cap), .c (.fn 126 [])] [(0, .arr 3 (l.map r3))]
      (fun sv objs' => sv = .tup [] ∧ ∃ ys : List (Int × Int × Int), ys.Perm l ∧ Asc ltXY ys ∧ ∃ gs, objs' = (0, .arr 3 (ys.map r3)) :: gs) := by
  have hL : (asSq l hok).length = l.length := by simp [asSq]
  have hmin := sort_min (P := G.P) (f := 125) (g := 126) (e := 3) (n := n) (cap := cap) encSq (ltOf cfXY) (asSq l hok) (by decide) encSq_len encSq_one
    (enterable_of Try.func125 rfl (by decide)) (by omega) (by omega) ?_
  · rw [asSq_r3] at hmin
    refine hmin.imp fun sv objs' h => ?_
    obtain ⟨h1, ys, h2, h3, gs, h4⟩ := h
    refine ⟨h1, ys.map (·.1), ?_, ?_, gs, ?_⟩
    · have := h2.map (·.1)
      rwa [asSq_val] at this
    · rw [Asc, List.pairwise_map]
      exact h3.imp fun {a b} h => by rw [ltOf_XY] at h; exact h
    · rw [h4, List.map_map]; rfl
  · intro blk off cp w hH hb
    have eg : ∀ args w, (callFunc 126 args).run Try.prog w = .ok (.enter 126 args) w := enters_of Try.func126 (by kernel_rfl) rfl
    have hsz : (asSq l hok).toArray.size < 4611686018427387904 := by
      rw [List.size_toArray, hL]; omega
    have hcon := AnyQ.slices_SortFunc sortSq 3 Try.isAgg118 Try.sizeOf118 encSq encSq_len encSq_one cfXY swoXY 126 #[] blk off cp (asSq l hok).toArray w eg
      (fun _ _ _ _ x y => fillCmp x y _) hH hb hsz
    exact hcon

end Go.Proofs.Ytmjaefnmianfpaa
