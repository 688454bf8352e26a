/- The library's sorting at squares, laid at this seat. -/
import Derived.Test.YtmfdkjjhdjkgpaaQZaa
import Derived.Test.YtmfdkjjhdjkgpaaQPsort
import Derived.Test.YtmfdkjjhdjkgpaaQZe
import Derived.Test.YtmfdkjjhdjkgpaaQT
import Derived.WalkKit
import Derived.Shelf.Lay
import Derived.Test.YtmfdkjjhdjkgpaaQZg
namespace Go.Proofs.Ytmfdkjjhdjkgpaa
open Go Go.RowKit Go.Shelf Go.Sort Go.Lib
set_option maxRecDepth 10000

def sortSq_ren : Go.Shelf.Ren := ⟨fun | 6 => 155 | 15 => 160 | 14 => 159 | 28 => 169 | 29 => 170 | 20 => 157 | 21 => 162 | 22 => 163 | 23 => 164 | 24 => 165 | 25 => 166 | 26 => 167 | 27 => 168 | 46 => 172 | 47 => 173 | 48 => 174 | 49 => 175 | 50 => 176 | 57 => 177 | n => n, fun | 22 => 38 | 24 => 99 | 25 => 137 | 3 => 3 | 39 => 160 | 0 => 0 | 53 => 168 | 55 => 170 | 4 => 4 | 46 => 162 | 45 => 161 | 50 => 57 | 5 => 5 | 9 => 9 | 66 => 171 | 70 => 175 | 76 => 177 | 77 => 178 | n => n, fun | n => n⟩
theorem sortSq : Go.Proofs.SlLaysF0.n6 Try.prog sortSq_ren := {
  mixed := by kernel_rfl,
  f6 := ⟨Try.f155.name, by decide, Try.func155.trans (congrArg some (by kernel_rfl))⟩,
  f14 := ⟨Try.f159.name, by decide, Try.func159.trans (congrArg some (by kernel_rfl))⟩,
  f15 := Try.func160.trans (congrArg some (by kernel_rfl)),
  f20 := ⟨Try.f157.name, by decide, Try.func157.trans (congrArg some (by kernel_rfl))⟩,
  f21 := ⟨Try.f162.name, by decide, Try.func162.trans (congrArg some (by kernel_rfl))⟩,
  f22 := ⟨Try.f163.name, by decide, Try.func163.trans (congrArg some (by kernel_rfl))⟩,
  f23 := ⟨Try.f164.name, by decide, Try.func164.trans (congrArg some (by kernel_rfl))⟩,
  f24 := ⟨Try.f165.name, by decide, Try.func165.trans (congrArg some (by kernel_rfl))⟩,
  f25 := ⟨Try.f166.name, by decide, Try.func166.trans (congrArg some (by kernel_rfl))⟩,
  f26 := ⟨Try.f167.name, by decide, Try.func167.trans (congrArg some (by kernel_rfl))⟩,
  f27 := ⟨Try.f168.name, by decide, Try.func168.trans (congrArg some (by kernel_rfl))⟩,
  f28 := Try.func169.trans (congrArg some (by kernel_rfl)),
  f29 := Try.func170.trans (congrArg some (by kernel_rfl)),
  f46 := ⟨Try.f172.name, by decide, Try.func172.trans (congrArg some (by kernel_rfl))⟩,
  f47 := Try.func173.trans (congrArg some (by kernel_rfl)),
  f48 := Try.func174.trans (congrArg some (by kernel_rfl)),
  f49 := ⟨Try.f175.name, by decide, Try.func175.trans (congrArg some (by kernel_rfl))⟩,
  f50 := ⟨Try.f176.name, by decide, Try.func176.trans (congrArg some (by kernel_rfl))⟩,
  f57 := ⟨Try.f177.name, by decide, Try.func177.trans (congrArg some (by kernel_rfl))⟩,
  t0 := Try.underlying0,
  a0 := Try.isAgg0,
  z0 := Try.sizeOf0,
  v0 := Try.zeroValue0,
  t3 := Try.underlying3,
  a3 := Try.isAgg3,
  z3 := Try.sizeOf3,
  v3 := Try.zeroValue3,
  t4 := Try.underlying4,
  a4 := Try.isAgg4,
  z4 := Try.sizeOf4,
  v4 := Try.zeroValue4,
  t5 := Try.underlying5,
  a5 := Try.isAgg5,
  z5 := Try.sizeOf5,
  v5 := Try.zeroValue5,
  t9 := Try.underlying9,
  a9 := Try.isAgg9,
  z9 := Try.sizeOf9,
  v9 := Try.zeroValue9,
  t22 := Try.underlying38,
  a22 := Try.isAgg38,
  z22 := Try.sizeOf38,
  v22 := Try.zeroValue38,
  t25 := Try.underlying137,
  a25 := Try.isAgg137,
  z25 := Try.sizeOf137,
  v25 := Try.zeroValue137,
  t39 := Try.underlying160,
  a39 := Try.isAgg160,
  z39 := Try.sizeOf160,
  v39 := Try.zeroValue160,
  t45 := Try.underlying161,
  a45 := Try.isAgg161,
  z45 := Try.sizeOf161,
  v45 := Try.zeroValue161,
  t46 := Try.underlying162,
  a46 := Try.isAgg162,
  z46 := Try.sizeOf162,
  v46 := Try.zeroValue162,
  t50 := Try.underlying57,
  a50 := Try.isAgg57,
  z50 := Try.sizeOf57,
  v50 := Try.zeroValue57,
  t53 := Try.underlying168,
  a53 := Try.isAgg168,
  z53 := Try.sizeOf168,
  v53 := Try.zeroValue168,
  t55 := Try.underlying170,
  a55 := Try.isAgg170,
  z55 := Try.sizeOf170,
  v55 := Try.zeroValue170,
  t66 := Try.underlying171,
  a66 := Try.isAgg171,
  z66 := Try.sizeOf171,
  v66 := Try.zeroValue171,
  t70 := Try.underlying175,
  a70 := Try.isAgg175,
  z70 := Try.sizeOf175,
  v70 := Try.zeroValue175,
  t76 := Try.underlying177,
  a76 := Try.isAgg177,
  z76 := Try.sizeOf177,
  v76 := Try.zeroValue177,
  t77 := Try.underlying178,
  a77 := Try.isAgg178,
  z77 := Try.sizeOf178,
  v77 := Try.zeroValue178 }

/-- A square of numbers that are not too great. -/
@[reducible] def okSq (a : Int × Int × Int) : Prop := (-1000000 ≤ a.1 ∧ a.1 ≤ 1000000) ∧ (-1000000 ≤ a.2.1 ∧ a.2.1 ≤ 1000000) ∧ (-9223372036854775808 ≤ a.2.2 ∧ a.2.2 ≤ 9223372036854775807)

abbrev Sq := { a : Int × Int × Int // okSq a }

instance : Inhabited Sq := ⟨⟨(0, 0, 0), by decide⟩⟩

def encSq (a : Sq) : List Value := [.int .i64 a.1.1, .int .i64 a.1.2.1, .int .i64 a.1.2.2]

theorem encSq_len (a : Sq) : (encSq a).length = 3 := rfl

theorem encSq_one (a : Sq) : ∀ v ∈ encSq a, v.oneCell' = true := by
  intro v hv
  simp [encSq] at hv
  rcases hv with rfl | rfl | rfl <;> rfl

theorem wrap_okx {a b : Sq} : IntKind.i64.wrap (a.1.1 - b.1.1) = a.1.1 - b.1.1 := by
  obtain ⟨h1, h2, h3⟩ := a.2
  obtain ⟨g1, g2, g3⟩ := b.2
  exact wrap_i64 _ (by omega) (by omega)

theorem wrap_oky {a b : Sq} : IntKind.i64.wrap (a.1.2.1 - b.1.2.1) = a.1.2.1 - b.1.2.1 := by
  obtain ⟨h1, h2, h3⟩ := a.2
  obtain ⟨g1, g2, g3⟩ := b.2
  exact wrap_i64 _ (by omega) (by omega)

theorem enterable_of {P : Program} {f : FuncId} {fn : Func} {cd : Code} (hf : P.funcs[f]? = some fn) (hb : fn.body = some cd) (hname : (fn.name != "runtime.NumGoroutine") = true) : enterable P f = true := by
  unfold enterable; rw [hf]; simp only [hb, hname]; rfl

/-- Squares with numbers that are not too great, as elements. -/
def asSq (l : List (Int × Int × Int)) (h : ∀ x ∈ l, okSq x) : List Sq := l.attach.map fun x => ⟨x.1, h x.1 x.2⟩

theorem asSq_val (l : List (Int × Int × Int)) (h : ∀ x ∈ l, okSq x) : (asSq l h).map (·.1) = l := by
  unfold asSq
  rw [List.map_map]
  exact List.attach_map_subtype_val l

theorem asSq_r3 (l : List (Int × Int × Int)) (h : ∀ x ∈ l, okSq x) : (asSq l h).map (encD encSq) = l.map r3 := by
  conv => rhs; rw [← asSq_val l h, List.map_map]
  rfl

end Go.Proofs.Ytmfdkjjhdjkgpaa

namespace Go.Proofs.Ytmfdkjjhdjkgpaa
open Go Go.RowKit Go.Shelf Go.Sort Go.Lib
set_option maxRecDepth 10000
set_option linter.unusedSimpArgs false

/-- What the order by Y, then by X gives. -/
def cfYX (a b : Sq) : Int := if a.1.2.1 = b.1.2.1 then a.1.1 - b.1.1 else a.1.2.1 - b.1.2.1

set_option maxHeartbeats 1000000 in
theorem placeCmp (x y : Sq) (W : World) : Calls Try.prog 132 #[.agg #[.int .i64 x.1.1, .int .i64 x.1.2.1, .int .i64 x.1.2.2], .agg #[.int .i64 y.1.1, .int .i64 y.1.2.1, .int .i64 y.1.2.2]] W fun e w' => e = .returned (.int .i64 (cfYX x y)) ∧ ∃ q os', w' = grow (W.drewN q) os' := by
  have hx := wrap_okx (a := x) (b := y)
  have hy := wrap_oky (a := x) (b := y)
  obtain ⟨⟨x1, x2, x3⟩, hx0⟩ := x
  obtain ⟨⟨y1, y2, y3⟩, hy0⟩ := y
  unfold cfYX
  dsimp only at hx hy ⊢
  obtain ⟨r, hr⟩ : ∃ r, r = (if x2 = y2 then x1 - y1 else x2 - y2) := ⟨_, rfl⟩
  rw [← hr]
  have hr1 : x2 = y2 → x1 - y1 = r := fun h => by rw [hr, if_pos h]
  have hr2 : x2 ≠ y2 → x2 - y2 = r := fun h => by rw [hr, if_neg h]
  clear hr
  go_enter Try.func132, Try.ntmps132
  go_wp2
  all_goals
    go_ret
    refine ⟨?_, 0, _, by rw [alloc_eq_grow, alloc_eq_grow, grow_grow]; rfl⟩
    rename_i hc
    first
      | exact congrArg (fun z => Ending.returned (Value.int .i64 z)) (hr1 (by simpa using hc))
      | exact congrArg (fun z => Ending.returned (Value.int .i64 z)) (hr2 (by simpa using hc))

theorem ltOf_YX (a b : Sq) : ltOf cfYX a b = lessB a.1 b.1 := by
  unfold ltOf cfYX
  rw [Bool.eq_iff_iff, decide_eq_true_eq]
  simp only [lessB, decide_eq_true_eq, Bool.or_eq_true, Bool.and_eq_true, beq_iff_eq]
  split <;> omega

theorem swoYX : SWO (ltOf cfYX) where
  irrefl x := by rw [ltOf_YX]; simp [lessB]
  trans x y z h1 h2 := by
    rw [ltOf_YX] at *
    simp only [lessB, decide_eq_true_eq, Bool.or_eq_true, Bool.and_eq_true, beq_iff_eq] at *
    omega
  ntrans x y z h1 h2 := by
    rw [ltOf_YX] at *
    rw [Bool.eq_false_iff] at *
    simp only [lessB, decide_eq_true_eq, Bool.or_eq_true, Bool.and_eq_true, beq_iff_eq, ne_eq] at *
    omega

theorem sortYX_min (l : List (Int × Int × Int)) (hok : ∀ x ∈ l, okSq x) (hpos : 0 < l.length) (hlen : l.length ≤ 2 ^ 40) (n : Nat) (cap : Option Nat) (hn : n = l.length) :
    CallX G.P 155 [.c (.sl 0 0 3 0 n cap), .c (.fn 132 [])] [(0, .arr 3 (l.map r3))]
      (fun sv objs' => sv = .tup [] ∧ ∃ ys : List (Int × Int × Int), ys.Perm l ∧ Asc lessB ys ∧ ∃ gs, objs' = (0, .arr 3 (ys.map r3)) :: gs) := by
  have hL : (asSq l hok).length = l.length := by simp [asSq]
  have hmin := sort_min (P := G.P) (f := 155) (g := 132) (e := 3) (n := n) (cap := cap) encSq (ltOf cfYX) (asSq l hok) (by decide) encSq_len encSq_one
    (enterable_of Try.func155 rfl (by decide)) (by omega) (by omega) ?_
  · rw [asSq_r3] at hmin
    refine hmin.imp fun sv objs' h => ?_
    obtain ⟨h1, ys, h2, h3, gs, h4⟩ := h
    refine ⟨h1, ys.map (·.1), ?_, ?_, gs, ?_⟩
    · have := h2.map (·.1)
      rwa [asSq_val] at this
    · rw [Asc, List.pairwise_map]
      exact h3.imp fun {a b} h => by rw [ltOf_YX] at h; exact h
    · rw [h4, List.map_map]; rfl
  · intro blk off cp w hH hb
    have eg : ∀ args w, (callFunc 132 args).run Try.prog w = .ok (.enter 132 args) w := enters_of Try.func132 (by kernel_rfl) rfl
    have hsz : (asSq l hok).toArray.size < 4611686018427387904 := by
      rw [List.size_toArray, hL]; omega
    have hcon := AnyQ.slices_SortFunc sortSq 3 Try.isAgg99 Try.sizeOf99 encSq encSq_len encSq_one cfYX swoYX 132 #[] blk off cp (asSq l hok).toArray w eg
      (fun _ _ _ _ x y => placeCmp x y _) hH hb hsz
    exact hcon

end Go.Proofs.Ytmfdkjjhdjkgpaa
