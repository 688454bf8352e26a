/- The executor is sound: slices cut, rows made, lengths. -/
import Derived.Test.YtbmaofepmheeeaaKh
namespace Go.Proofs.Ytbmaofepmheeeaa
open Go Go.RowKit

/-- An optional bound, as a number and as a value. -/
def IntOpt : Option Int → Option Value → Prop
  | none, none => True
  | some n, some (.int _ m) => n = m
  | _, _ => False

theorem run_sliceBound {P : Program} {w : World} {k : IntKind} {n : Int} {y : Nat} {code : BoundsCode} (h0 : 0 ≤ n) (h1 : n ≤ y) : (Instr.sliceBound (.int k n) y code).run P w = .ok n.toNat w := by
  simp [Instr.sliceBound, asIntOf, h0, h1]

theorem run_sliceBounds {P : Program} {w : World} {isS : Bool} {len cap : Nat} {lo hi mx : Option Int} {lo' hi' mx' : Option Value} (hl : IntOpt lo lo') (hh : IntOpt hi hi') (hm : IntOpt mx mx')
    (h0 : 0 ≤ lo.getD 0) (h1 : lo.getD 0 ≤ hi.getD len) (h2 : hi.getD len ≤ mx.getD cap) (h3 : mx.getD cap ≤ cap) (h4 : mx = none ∨ hi.isSome = true) :
    (Instr.sliceBounds isS len cap lo' hi' mx').run P w = .ok ((lo.getD 0).toNat, (hi.getD len).toNat, (mx.getD cap).toNat) w := by
  cases mx with
  | none =>
    cases mx' with
    | some _ => exact hm.elim
    | none =>
      cases hi with
      | none =>
        cases hi' with
        | some _ => exact hh.elim
        | none =>
          cases lo with
          | none =>
            cases lo' with
            | some _ => exact hl.elim
            | none => simp [Instr.sliceBounds]
          | some l =>
            match lo', hl with
            | some (.int k l'), hl =>
              obtain rfl := hl
              simp only [Option.getD_some, Option.getD_none] at h0 h1 h2
              simp [Instr.sliceBounds, run_sliceBound (P := P) (w := w) (k := k) h0 h1]
      | some h =>
        match hi', hh with
        | some (.int kh h'), hh =>
          obtain rfl := hh
          simp only [Option.getD_some, Option.getD_none] at h0 h1 h2
          have hb := fun code => run_sliceBound (P := P) (w := w) (k := kh) (code := code) (show 0 ≤ h by omega) h2
          cases lo with
          | none =>
            cases lo' with
            | some _ => exact hl.elim
            | none => simp [Instr.sliceBounds, hb]
          | some l =>
            match lo', hl with
            | some (.int k l'), hl =>
              obtain rfl := hl
              simp only [Option.getD_some] at h0 h1
              have hb2 := fun code => run_sliceBound (P := P) (w := w) (k := k) (n := l) (y := h.toNat) (code := code) h0 (by omega)
              simp [Instr.sliceBounds, hb, hb2]
  | some m =>
    match mx', hm with
    | some (.int km m'), hm =>
      obtain rfl := hm
      cases hi with
      | none => simp at h4
      | some h =>
        match hi', hh with
        | some (.int kh h'), hh =>
          obtain rfl := hh
          simp only [Option.getD_some] at h0 h1 h2 h3
          have hb := fun code => run_sliceBound (P := P) (w := w) (k := km) (code := code) (show 0 ≤ m by omega) h3
          have hb1 := fun code => run_sliceBound (P := P) (w := w) (k := kh) (n := h) (y := m.toNat) (code := code) (by omega) (by omega)
          cases lo with
          | none =>
            cases lo' with
            | some _ => exact hl.elim
            | none => simp [Instr.sliceBounds, hb, hb1]
          | some l =>
            match lo', hl with
            | some (.int k l'), hl =>
              obtain rfl := hl
              simp only [Option.getD_some] at h0 h1
              have hb2 := fun code => run_sliceBound (P := P) (w := w) (k := k) (n := l) (y := h.toNat) (code := code) h0 (by omega)
              simp [Instr.sliceBounds, hb, hb1, hb2]

theorem run_sliceAt {P : Program} {t e : TypeId} {E : TyI} (hu : P.underlying t = some (.slice e)) (hE : TyFacts P e E) {w : World} {a : Option Addr} {len cap : Nat} {lo hi mx : Option Int} {lo' hi' mx' : Option Value} (hl : IntOpt lo lo') (hh : IntOpt hi hi') (hm : IntOpt mx mx')
    (h0 : 0 ≤ lo.getD 0) (h1 : lo.getD 0 ≤ hi.getD len) (h2 : hi.getD len ≤ mx.getD cap) (h3 : mx.getD cap ≤ cap) (h4 : mx = none ∨ hi.isSome = true) :
    (Instr.sliceAt t (.slice a len cap) lo' hi' mx').run P w = .ok (.slice (if (mx.getD cap).toNat = (lo.getD 0).toNat then a else a.map (·.add ((lo.getD 0).toNat * E.size))) ((hi.getD len).toNat - (lo.getD 0).toNat) ((mx.getD cap).toNat - (lo.getD 0).toNat)) w := by
  simp [Instr.sliceAt, Instr.slice, run_underlying hu, run_sliceBounds hl hh hm h0 h1 h2 h3 h4, hE.run_sizeOf]

theorem Rep.cut {w : World} {R : Nat → Prop} {e : Nat} {xs : List (List DC)} {a : Option Addr} {n cap : Nat} (h : Rep w R (.list e xs) (.slice a n cap)) (l k : Nat) (hl : l ≤ k) (hk : k ≤ xs.length) (cap' : Nat) (hc : k - l ≤ cap') :
    Rep w R (.list e ((xs.drop l).take (k - l))) (.slice (if cap' = 0 then a else a.map (·.add (l * e))) (k - l) cap') := by
  cases h with
  | list _ _ _ _ val hc' hlen hcell hrep =>
    have hlen2 : ((xs.drop l).take (k - l)).length = k - l := by simp; omega
    have := Rep.list (w := w) (R := R) e ((xs.drop l).take (k - l)) (if cap' = 0 then a else a.map (·.add (l * e))) cap' (fun i j => val (l + i) j) (by omega)
      (fun x hx => hlen x (List.mem_of_mem_drop (List.mem_of_mem_take hx)))
      (fun i j hi hj => by
        obtain ⟨b, off, rfl, h2, h3⟩ := hcell (l + i) j (by omega) hj
        refine ⟨b, off + l * e, ?_, h2, ?_⟩
        · rw [if_neg (by omega)]; simp [add_none]
        · rw [← h3, Nat.add_mul]; congr 2; omega)
      (fun i j x hx => by
        refine hrep (l + i) j x ?_
        rw [List.getElem?_take] at hx
        split at hx
        · rw [List.getElem?_drop] at hx; exact hx
        · simp at hx)
    rw [hlen2] at this
    exact this

theorem run_sliceX {P : Program} {t e : TypeId} {E : TyI} (hu : P.underlying t = some (.slice e)) (hE : TyFacts P e E) {c : Ctx} {objs : Objs} {w : World} {x : CV} {u : Value} {lo hi mx : Option Int} {lo' hi' mx' : Option Value} (hl : IntOpt lo lo') (hh : IntOpt hi hi') (hm : IntOpt mx mx')
    {K : CV → Prop} (h : sliceX E.size objs x lo hi mx K) (hx : RelCV c objs w x u) :
    ∃ r z, (∀ w' : World, (Instr.sliceAt t u lo' hi' mx').run P w' = .ok r w') ∧ RelCV c objs w z r ∧ K z := by
  unfold sliceX at h
  split at h
  · rename_i ee xs
    replace h := chkP_iff.1 h; obtain ⟨he, h0, h1, h2, h⟩ := h
    obtain ⟨a, cap, rfl, hcap⟩ := Rep.slice_form hx
    cases mx with
    | none =>
      refine ⟨_, _, fun w' => run_sliceAt hu hE hl hh hm h0 h1 (by simp; omega) (by simp) (.inl rfl), ?_, h⟩
      have := Rep.cut hx (lo.getD 0).toNat (hi.getD xs.length).toNat (by omega) (by omega) (cap - (lo.getD 0).toNat) (by omega)
      simp only [Option.getD_none, Int.toNat_natCast, he]
      by_cases hz : cap = (lo.getD 0).toNat
      · rw [if_pos (by omega)] at this ⊢
        exact this
      · rw [if_neg (by omega)] at this ⊢
        exact this
    | some m =>
      obtain ⟨rfl, rfl, h⟩ := h
      refine ⟨_, .esl, fun w' => run_sliceAt hu hE hl hh hm h0 h1 (by simp) (by simp at h2 ⊢; omega) (.inr rfl), ?_, h⟩
      simp only [Option.getD_some, Nat.sub_self, if_true]
      exact ⟨a, rfl⟩
  · rename_i o ver ee off len
    replace h := chkP_iff.1 h; obtain ⟨he, h⟩ := h
    replace h := chkP_iff.1 h; obtain ⟨hal, h0, h1, h2, h⟩ := h
    have hlive := alive_iff hal
    obtain ⟨hone, hkn, hx⟩ := hx
    obtain ⟨a, cp, rfl, k2, k3, k4⟩ := hx hlive
    cases mx with
    | none =>
      refine ⟨_, .sl o ver ee (off + (lo.getD 0).toNat) ((hi.getD len).toNat - (lo.getD 0).toNat) none, fun w' => run_sliceAt hu hE hl hh hm h0 h1 (by simp; omega) (by simp) (.inl rfl), ⟨rfl, hkn, fun _ => ⟨_, cp - (lo.getD 0).toNat, rfl, by omega, by simp [capOk], fun h5 => ?_⟩⟩, h⟩
      have e1 : off + (lo.getD 0).toNat + (cp - (lo.getD 0).toNat) = off + cp := by omega
      have e2 : ¬ cp = (lo.getD 0).toNat := by omega
      have e3 : 0 < cp := by omega
      obtain ⟨b, base, cs, T', g1, rfl, g3, g4⟩ := k4 e3
      refine ⟨b, base, cs, T', g1, ?_, g3, ?_⟩
      · simp only [Option.getD_none, Int.toNat_natCast]
        rw [if_neg e2]
        simp only [Option.map_some, add_none, he]
        rw [Nat.add_mul, Nat.add_assoc]
      · rw [e1]; exact g4
    | some m =>
      obtain ⟨rfl, rfl, h⟩ := h
      refine ⟨_, .esl, fun w' => run_sliceAt hu hE hl hh hm h0 h1 (by simp) (by simp at h2 ⊢; omega) (.inr rfl), ?_, h⟩
      simp only [Option.getD_some, Nat.sub_self, if_true]
      exact ⟨a, rfl⟩
  · rename_i o ver ee off len cap
    replace h := chkP_iff.1 h; obtain ⟨he, h⟩ := h
    replace h := chkP_iff.1 h; obtain ⟨hal, h0, h1, h2, h⟩ := h
    have hlive := alive_iff hal
    obtain ⟨hone, hkn, hx⟩ := hx
    obtain ⟨a, cp, rfl, k2, k3, k4⟩ := hx hlive
    obtain rfl := k3 cap rfl
    cases mx with
    | none =>
      refine ⟨_, .sl o ver ee (off + (lo.getD 0).toNat) ((hi.getD len).toNat - (lo.getD 0).toNat) (some (cp - (lo.getD 0).toNat)), fun w' => run_sliceAt hu hE hl hh hm h0 h1 (by simp; omega) (by simp) (.inl rfl), ⟨rfl, hkn, fun _ => ⟨_, cp - (lo.getD 0).toNat, rfl, by omega, by simp [capOk], fun h5 => ?_⟩⟩, h⟩
      have e1 : off + (lo.getD 0).toNat + (cp - (lo.getD 0).toNat) = off + cp := by omega
      have e2 : ¬ cp = (lo.getD 0).toNat := by omega
      have e3 : 0 < cp := by omega
      obtain ⟨b, base, cs, T', g1, rfl, g3, g4⟩ := k4 e3
      refine ⟨b, base, cs, T', g1, ?_, g3, ?_⟩
      · simp only [Option.getD_none, Int.toNat_natCast]
        rw [if_neg e2]
        simp only [Option.map_some, add_none, he]
        rw [Nat.add_mul, Nat.add_assoc]
      · rw [e1]; exact g4
    | some m =>
      rcases h with ⟨rfl, rfl, h⟩ | ⟨hs', hm1, hm2, h⟩
      · refine ⟨_, .esl, fun w' => run_sliceAt hu hE hl hh hm h0 h1 (by simp) (by simp at h2 ⊢; omega) (.inr rfl), ?_, h⟩
        simp only [Option.getD_some, Nat.sub_self, if_true]
        exact ⟨a, rfl⟩
      · refine ⟨_, .sl o ver ee (off + (lo.getD 0).toNat) ((hi.getD len).toNat - (lo.getD 0).toNat) (some (m.toNat - (lo.getD 0).toNat)), fun w' => run_sliceAt hu hE hl hh hm h0 h1 (by simpa using hm1) (by simpa using hm2) (.inr hs'), ⟨rfl, hkn, fun _ => ⟨_, m.toNat - (lo.getD 0).toNat, rfl, by omega, by simp [capOk], fun h5 => ?_⟩⟩, h⟩
        have e2 : ¬ m.toNat = (lo.getD 0).toNat := by omega
        have e3 : 0 < cp := by omega
        have e4 : off + (lo.getD 0).toNat + (m.toNat - (lo.getD 0).toNat) ≤ off + cp := by omega
        obtain ⟨b, base, cs, T', g1, rfl, g3, g4⟩ := k4 e3
        refine ⟨b, base, cs, T', g1, ?_, g3, ?_⟩
        · simp only [Option.getD_some]
          rw [if_neg e2]
          simp only [Option.map_some, add_none, he]
          rw [Nat.add_mul, Nat.add_assoc]
        · refine Nat.le_trans ?_ g4
          exact Nat.add_le_add_left (Nat.mul_le_mul_right _ e4) _
  · obtain ⟨h0, h1, h2, h3, h⟩ := h
    obtain rfl := hx
    refine ⟨_, .nilsl, fun w' => run_sliceAt hu hE hl hh hm (by omega) (by simp [h0, h1]) (by cases mx <;> simp_all) (by cases mx <;> simp_all) (h3.imp id (fun h => by simp [h])), ?_, h⟩
    have : (mx.getD ((0 : Nat) : Int)) = 0 := by simpa using h2
    simp [h0, h1, h2, RelCV]
  · obtain ⟨h0, h1, h2, h3, h⟩ := h
    obtain ⟨a, rfl⟩ := hx
    refine ⟨_, .esl, fun w' => run_sliceAt hu hE hl hh hm (by omega) (by simp [h0, h1]) (by cases mx <;> simp_all) (by cases mx <;> simp_all) (h3.imp id (fun h => by simp [h])), ?_, h⟩
    simp [h0, h1, h2, RelCV]
  · exact h.elim

theorem run_sliceArrX {P : Program} {t e : TypeId} {n : Nat} {E : TyI} (hu : P.underlying t = some (.array n e)) (hE : TyFacts P e E) {c : Ctx} {objs : Objs} {w : World} {x : CV} {u : Value} {lo hi mx : Option Int} {lo' hi' mx' : Option Value} (hl : IntOpt lo lo') (hh : IntOpt hi hi') (hm : IntOpt mx mx')
    (hr : RelObjs c objs w) {K : CV → Prop} (h : sliceArrX E.size n objs x lo hi mx K) (hx : RelCV c objs w x u) :
    ∃ r z, (∀ w' : World, (Instr.sliceAt t u lo' hi' mx').run P w' = .ok r w') ∧ RelCV c objs w z r ∧ K z := by
  unfold sliceArrX at h
  split at h
  · rename_i o ver p
    split at h
    · rename_i cs hob
      replace h := chkP_iff.1 h; obtain ⟨he, h⟩ := h
      replace h := chkP_iff.1 h; obtain ⟨rfl, h⟩ := h
      replace h := chkP_iff.1 h; obtain ⟨hle, h0, h1, h2, h⟩ := h
      have hm' : mx' = none := by cases mx' with | none => rfl | some v => exact hm.elim
      subst hm'
      obtain ⟨hob, hlive⟩ := objRd_ob hr hob
      obtain ⟨hone, hkn, hx⟩ := hx
      obtain ⟨b, base, g1, rfl⟩ := hx hlive
      obtain ⟨b', base', cs', T', q1, q2, q3, q4⟩ := hob
      rw [g1] at q1
      obtain ⟨rfl, rfl⟩ : b = b' ∧ base = base' := by simpa using q1
      refine ⟨.slice (some (if n = (lo.getD 0).toNat then ⟨b, base + p, none⟩ else (⟨b, base + p, none⟩ : Addr).add ((lo.getD 0).toNat * 1))) ((hi.getD n).toNat - (lo.getD 0).toNat) (n - (lo.getD 0).toNat), _, fun w' => ?_, ?_, h⟩
      · have := run_sliceBounds (P := P) (w := w') (isS := false) (len := n) (cap := n) (mx := none) (mx' := none) hl hh trivial h0 h1 (by simpa using h2) (by simp) (.inl rfl)
        simp [Instr.sliceAt, run_underlying hu, Instr.sureAddr, this, hE.run_sizeOf, he]
      · refine ⟨rfl, hkn, fun _ => ⟨_, n - (lo.getD 0).toNat, rfl, by omega, by rintro c' ⟨rfl⟩; rfl, fun h3 => ⟨b, base, cs', T', g1, ?_, q2, by omega⟩⟩⟩
        rw [if_neg (by omega)]
        simp only [add_none, Nat.mul_one, Nat.add_assoc]
    · exact h.elim
  · exact h.elim

theorem und_of_kind_str {P : Program} {t : TypeId} {T : TyI} (hT : TyFacts P t T) (h : T.kind = .str) : P.underlying t = some .string := by
  rw [hT.kind] at h
  unfold kindX at h
  split at h <;> first | (cases h; done) | (split at h <;> cases h; done) | (rename_i hf; exact hf)

theorem run_strSliceX {P : Program} {t : TypeId} (hu : P.underlying t = some .string) {c : Ctx} {objs : Objs} {w : World} {x : CV} {u : Value} {lo hi mx : Option Int} {lo' hi' mx' : Option Value} (hl : IntOpt lo lo') (hh : IntOpt hi hi') (hm : IntOpt mx mx')
    {K : CV → Prop} (h : strSliceX x lo hi mx K) (hx : RelCV c objs w x u) :
    ∃ r z, (∀ w' : World, (Instr.sliceAt t u lo' hi' mx').run P w' = .ok r w') ∧ RelCV c objs w z r ∧ K z := by
  unfold strSliceX at h
  split at h
  · rename_i s
    obtain ⟨rfl, h0, h1, h2, h⟩ := h
    obtain rfl := Rep.v_inv hx
    have hm' : mx' = none := by cases mx' with | none => rfl | some v => exact hm.elim
    subst hm'
    exact ⟨_, _, fun w' => by
      have := run_sliceBounds (P := P) (w := w') (isS := false) (len := s.size) (cap := s.size) (mx := none) (mx' := none) hl hh trivial h0 h1 (by simpa using h2) (by simp) (.inl rfl)
      simp [Instr.sliceAt, Instr.slice, run_underlying hu, this], relV _ rfl, h⟩
  · exact h.elim

theorem run_lenX {P : Program} {t : TypeId} {T : TyI} (hT : TyFacts P t T) {c : Ctx} {objs : Objs} {w : World} {x : CV} {u : Value} {K : CV → Prop} (ts : Array TypeId) (hts : ts[0]? = some t) (ty : TypeId)
    (h : lenX T.kind objs x K) (hx : RelCV c objs w x u) : ∃ r z, (∀ w', SameOld w w' → (Builtin.len_ ts ty #[u]).run P w' = .ok r w') ∧ RelCV c objs w z r ∧ K z := by
  unfold lenX at h
  split at h
  · rename_i e hk
    have hu := und_of_kind_slice hT hk
    have hrun : ∀ a n cp w', SameOld w w' → (Builtin.len_ ts ty #[.slice a n cp]).run P w' = .ok (.int .i64 n) w' := by
      intro a n cp w' _
      simp [Builtin.len_, hts, run_underlying hu, goInt]
    split at h
    · obtain rfl := hx; exact ⟨_, _, hrun _ _ _, relV _ rfl, h⟩
    · obtain ⟨a, rfl⟩ := hx; exact ⟨_, _, hrun _ _ _, relV _ rfl, h⟩
    · obtain ⟨a, cap, rfl, _⟩ := Rep.slice_form hx
      exact ⟨_, _, hrun _ _ _, relV _ rfl, h⟩
    · replace h := chkP_iff.1 h; obtain ⟨hal, h⟩ := h
      obtain ⟨a, cp, rfl, _⟩ := hx.2.2 (alive_iff hal)
      exact ⟨_, _, hrun _ _ _, relV _ rfl, h⟩
    · replace h := chkP_iff.1 h; obtain ⟨hal, h⟩ := h
      obtain ⟨a, cp, rfl, _⟩ := hx.2.2 (alive_iff hal)
      exact ⟨_, _, hrun _ _ _, relV _ rfl, h⟩
    · exact h.elim
  · rename_i hk
    have hu := und_of_kind_str hT hk
    split at h
    · obtain rfl := Rep.v_inv hx
      exact ⟨_, _, fun _ _ => by simp [Builtin.len_, hts, run_underlying hu, goInt], relV _ rfl, h⟩
    · exact h.elim
  · exact h.elim

end Go.Proofs.Ytbmaofepmheeeaa
