/- The library's stable sorting at squares: at most six blocks. -/
import Derived.Test.YtmfdkjjhdjkgpaaQStc
namespace Go.Proofs.Ytmfdkjjhdjkgpaa
open Go Go.RowKit
set_option maxRecDepth 10000
set_option maxHeartbeats 4000000
set_option linter.unusedSimpArgs false

/-- Every block is in order. -/
def Blk (B n : Nat) (L : List S3) : Prop := ∀ p q, p < q → q < n → p / B = q / B → lessB (gD L q) (gD L p) = false

/-- Blocks are put together up to a. -/
def BlkM (B a n : Nat) (L : List S3) : Prop := Blk (2 * B) a L ∧ ∀ p q, a ≤ p → p < q → q < n → p / B = q / B → lessB (gD L q) (gD L p) = false

theorem blkM_left {B a m n : Nat} {L : List S3} (hB : B = 20 ∨ B = 40 ∨ B = 80) (ha : a % (2 * B) = 0) (hm : m ≤ a + B) (hn : m ≤ n) (h : BlkM B a n L) : AscR lessB a m L := by
  intro p q h1 h2 h3
  refine h.2 p q h1 h2 (by omega) ?_
  rcases hB with rfl | rfl | rfl <;> omega

theorem blkM_right {B a b n : Nat} {L : List S3} (hB : B = 20 ∨ B = 40 ∨ B = 80) (ha : a % (2 * B) = 0) (hb : b ≤ a + 2 * B) (hn : b ≤ n) (h : BlkM B a n L) : AscR lessB (a + B) b L := by
  intro p q h1 h2 h3
  refine h.2 p q (by omega) h2 (by omega) ?_
  rcases hB with rfl | rfl | rfl <;> omega

theorem blkM_next {B a n : Nat} {L M : List S3} (hB : B = 20 ∨ B = 40 ∨ B = 80) (ha : a % (2 * B) = 0) (h : BlkM B a n L) (hs : Seg a (a + 2 * B) L M) (hm : AscR lessB a (a + 2 * B) M) : BlkM B (a + 2 * B) n M := by
  refine ⟨fun p q h1 h2 h3 => ?_, fun p q h1 h2 h3 h4 => ?_⟩
  · by_cases c : a ≤ p
    · exact hm p q c h1 h2
    · have hq : q < a := by rcases hB with rfl | rfl | rfl <;> omega
      rw [hs.out p (.inl (by omega)), hs.out q (.inl hq)]
      exact h.1 p q h1 hq h3
  · rw [hs.out p (.inr (by omega)), hs.out q (.inr (by omega))]
    exact h.2 p q (by omega) h2 h3 h4

theorem blkM_last {B a n : Nat} {L M : List S3} (hB : B = 20 ∨ B = 40 ∨ B = 80) (ha : a % (2 * B) = 0) (h : BlkM B a n L) (hs : Seg a n L M) (hn : n < a + 2 * B) (hm : AscR lessB a n M) : Blk (2 * B) n M := by
  intro p q h1 h2 h3
  by_cases c : a ≤ p
  · exact hm p q c h1 h2
  · have hq : q < a := by rcases hB with rfl | rfl | rfl <;> omega
    rw [hs.out p (.inl (by omega)), hs.out q (.inl hq)]
    exact h.1 p q h1 hq h3

theorem blk_one {B n : Nat} {L : List S3} (hn : n ≤ B) (h : Blk B n L) : AscR lessB 0 n L := by
  intro p q _ h2 h3
  refine h p q h2 h3 ?_
  rw [Nat.div_eq_of_lt (by omega), Nat.div_eq_of_lt (by omega)]

theorem stable_min (l : List S3) (cap : Option Nat) (hl : l.length ≤ 120) (hok : ∀ x ∈ l, okSq x) :
    CallX G.P 154 [.c (.sl 0 0 3 0 l.length cap), .c (vI l.length), .c (.fn 132 [])] [(0, .arr 3 (l.map r3))]
      (fun sv objs' => sv = .tup [] ∧ ∃ L gs, Seg 0 l.length l L ∧ AscR lessB 0 l.length L ∧ objs' = (0, .arr 3 (L.map r3)) :: gs) := by
  refine call_body (G := G) Try.func154 rfl (by decide) (Nat.le_of_ble_eq_true rfl) ?_
  conv => whnf
  refine .inl ⟨Nat × List S3, fun x => 30 - x.1, fun x => 20 * x.1 ≤ l.length ∧ Seg 0 l.length l x.2 ∧ Blk 20 (20 * x.1) x.2,
    fun x => ⟨[(0, .one (.c (.sl 0 0 3 0 l.length cap))), (1, .one (.c (vI l.length))), (2, .one (.c (.fn 132 []))), (6, .one (.c (vI 20))), (7, .one (.c (vI (20 * x.1 : Nat)))), (8, .one (.c (vI (20 * x.1 + 20 : Nat))))], [(0, .arr 3 (x.2.map r3))], _⟩, (0, l), ⟨Nat.zero_le _, Seg.refl _ _ _, fun p q h1 h2 h3 => by omega⟩, weak_of rfl ?_ rfl (Nat.le_of_ble_eq_true rfl), ?_⟩
  · (repeat' first | exact rfl | exact trivial | apply And.intro | (simp [getE]; done))
  rintro ⟨k, L⟩ ⟨k1, hs, ha⟩
  dsimp only at k1 hs ha ⊢
  have hLl := hs.len
  have hok1 := hs.ok hok
  conv => whnf
  refine Br.mk (fun hb => ?_) (fun hb => ?_) <;> conv => whnf
  · have hk : 20 * k + 20 ≤ l.length := by simp at hb; omega
    have hwk : IntKind.i64.wrap (((20 * k + 20 : Nat) : Int) + 20) = ((20 * (k + 1) + 20 : Nat) : Int) := by rw [wrap_i64 _ (by omega) (by omega)]; omega
    have hmid : ((20 * k + 20 : Nat) : Int) = ((20 * (k + 1) : Nat) : Int) := by omega
    rw [← hLl]
    refine frameN [0] (insertion_min L (20 * k) (20 * k + 20) cap (by omega) (by omega) hok1 (by omega)) rfl (by decide) ⟨rfl, rfl⟩ rfl ?_
    rintro _ _ ⟨rfl, L1, gs1, hs1, ha1, rfl⟩
    refine ⟨[_], gs1, rfl, Nat.le_refl _, rfl, ?_⟩
    conv => whnf
    rw [hLl]
    refine ⟨(k + 1, L1), ⟨by show 20 * (k + 1) ≤ _; omega, hs.trans (hs1.wide (Nat.zero_le _) (by omega)), fun p q q1 q2 q3 => ?_⟩, by show 30 - (k + 1) < 30 - k; omega, weak_of rfl ?_ rfl (Nat.le_of_ble_eq_true rfl)⟩
    · by_cases c : 20 * k ≤ p
      · exact ha1 p q c q1 (by omega)
      · rw [hs1.out p (.inl (by omega)), hs1.out q (.inl (by omega))]
        exact ha p q q1 (by omega) q3
    · repeat' first
      | exact rfl
      | exact trivial
      | apply And.intro
      | exact congrArg (fun m => SV.one (V1.c (vI m))) hwk
  · have hk : l.length < 20 * k + 20 := by simp at hb; omega
    rw [← hLl]
    refine frameN [0] (insertion_min L (20 * k) L.length cap (by omega) (by omega) hok1 (by omega)) rfl (by decide) ⟨rfl, rfl⟩ rfl ?_
    rintro _ _ ⟨rfl, L1, gs1, hs1, ha1, rfl⟩
    refine ⟨[_], gs1, rfl, Nat.le_refl _, rfl, ?_⟩
    conv => whnf
    rw [hLl]
    have hs' : Seg 0 l.length l L1 := hs.trans (hs1.wide (Nat.zero_le _) (by omega))
    have hbl : Blk 20 l.length L1 := fun p q q1 q2 q3 => by
      by_cases c : 20 * k ≤ p
      · exact ha1 p q c q1 (by omega)
      · rw [hs1.out p (.inl (by omega)), hs1.out q (.inl (by omega))]
        exact ha p q q1 (by omega) q3
    clear ha ha1 hs1 hs hok1 hb
    have hL1 := hs'.len
    refine .inl ⟨Nat × List S3, fun x => 200 - x.1, fun x => (x.1 = 20 ∨ x.1 = 40 ∨ x.1 = 80 ∨ x.1 = 160) ∧ Seg 0 l.length l x.2 ∧ Blk x.1 l.length x.2,
      fun x => ⟨[(0, .one (.c (.sl 0 0 3 0 l.length cap))), (1, .one (.c (vI l.length))), (2, .one (.c (.fn 132 []))), (6, .one (.c (vI (x.1 : Nat))))], [(0, .arr 3 (x.2.map r3))], _⟩, (20, L1), ⟨.inl rfl, hs', hbl⟩, weak_of rfl ?_ rfl (Nat.le_of_ble_eq_true rfl), ?_⟩
    · (repeat' first | exact rfl | exact trivial | apply And.intro | (simp [getE]; done))
    rintro ⟨B, M⟩ ⟨hB4, hsM, hbM⟩
    dsimp only at hB4 hsM hbM ⊢
    conv => whnf
    refine Br.mk (fun hb => ?_) (fun hb => ?_) <;> conv => whnf
    · have hk : B < l.length := by simp at hb; omega
      have hB : B = 20 ∨ B = 40 ∨ B = 80 := by omega
      have hw2 : IntKind.i64.wrap (2 * (B : Int)) = ((2 * B : Nat) : Int) := by rw [wrap_i64 _ (by omega) (by omega)]; omega
      have hw2' : IntKind.i64.wrap ((B : Int) * 2) = ((2 * B : Nat) : Int) := by rw [wrap_i64 _ (by omega) (by omega)]; omega
      refine .inl ⟨Nat × List S3, fun x => 400 - x.1, fun x => x.1 % (2 * B) = 0 ∧ x.1 ≤ l.length ∧ Seg 0 l.length l x.2 ∧ BlkM B x.1 l.length x.2,
        fun x => ⟨[(0, .one (.c (.sl 0 0 3 0 l.length cap))), (1, .one (.c (vI l.length))), (2, .one (.c (.fn 132 []))), (6, .one (.c (vI B))), (7, .one (.c (vI (x.1 : Nat)))), (8, .one (.c (vI (x.1 + 2 * B : Nat))))], [(0, .arr 3 (x.2.map r3))], _⟩, (0, M), ⟨Nat.zero_mod _, Nat.zero_le _, hsM, fun p q h1 h2 h3 => by omega, fun p q _ h1 h2 h3 => hbM p q h1 h2 h3⟩, weak_of rfl ?_ rfl (Nat.le_of_ble_eq_true rfl), ?_⟩
      · rw [hw2, Nat.zero_add]
        (repeat' first | exact rfl | exact trivial | apply And.intro | (simp [getE]; done))
      clear hsM hbM
      rintro ⟨a, M⟩ ⟨hamod, hal, hsM, hbM⟩
      dsimp only at hamod hal hsM hbM ⊢
      have hMl := hsM.len
      have hokM := hsM.ok hok
      have hw3 : IntKind.i64.wrap ((a : Int) + (B : Int)) = ((a + B : Nat) : Int) := by rw [wrap_i64 _ (by omega) (by omega)]; omega
      conv => whnf
      refine Br.mk (fun hb1 => ?_) (fun hb1 => ?_) <;> conv => whnf
      · have hab : a + 2 * B ≤ l.length := by simp at hb1; omega
        have hw4 : IntKind.i64.wrap (((a + 2 * B : Nat) : Int) + ((2 * B : Nat) : Int)) = ((a + 2 * B + 2 * B : Nat) : Int) := by rw [wrap_i64 _ (by omega) (by omega)]; omega
        have hmm := merge_rec (l.length + 1) M a (a + B) (a + 2 * B) cap (by omega) (by omega) (by omega) (by omega) (by omega) hokM (blkM_left hB hamod (Nat.le_refl _) (by omega) hbM) (blkM_right hB hamod (Nat.le_refl _) hab hbM)
        unfold MergeOK at hmm
        rw [hMl] at hmm
        rw [hw3]
        refine frameN [0] hmm rfl (by decide) ⟨rfl, rfl⟩ rfl ?_
        rintro _ _ ⟨rfl, M1, gs2, hs2, ha2, rfl⟩
        refine ⟨[_], gs2, rfl, Nat.le_refl _, rfl, ?_⟩
        conv => whnf
        refine ⟨(a + 2 * B, M1), ⟨by show (a + 2 * B) % (2 * B) = 0; rw [Nat.add_mod_right]; exact hamod, hab, hsM.trans (hs2.wide (Nat.zero_le _) (by omega)), blkM_next hB hamod hbM hs2 ha2⟩, by show 400 - (a + 2 * B) < 400 - a; omega, weak_of rfl ?_ rfl (Nat.le_of_ble_eq_true rfl)⟩
        rw [hw2, hw4]
        (repeat' first | exact rfl | exact trivial | apply And.intro | (simp [getE]; done))
      · have hab : l.length < a + 2 * B := by simp at hb1; omega
        rw [hw3]
        refine Br.mk (fun hb2 => ?_) (fun hb2 => ?_) <;> conv => whnf
        · have hal2 : a + B < l.length := by simp at hb2; omega
          have hmm := merge_rec (l.length + 1) M a (a + B) l.length cap (by omega) (by omega) (by omega) (by omega) (by omega) hokM (blkM_left hB hamod (Nat.le_refl _) (by omega) hbM) (blkM_right hB hamod (by omega) (Nat.le_refl _) hbM)
          unfold MergeOK at hmm
          rw [hMl] at hmm
          refine frameN [0] hmm rfl (by decide) ⟨rfl, rfl⟩ rfl ?_
          rintro _ _ ⟨rfl, M1, gs2, hs2, ha2, rfl⟩
          refine ⟨[_], gs2, rfl, Nat.le_refl _, rfl, ?_⟩
          conv => whnf
          refine ⟨(2 * B, M1), ⟨by show 2 * B = 20 ∨ 2 * B = 40 ∨ 2 * B = 80 ∨ 2 * B = 160; omega, hsM.trans (hs2.wide (Nat.zero_le _) (Nat.le_refl _)), blkM_last hB hamod hbM hs2 hab ha2⟩, by show 200 - 2 * B < 200 - B; omega, weak_of rfl ?_ rfl (Nat.le_of_ble_eq_true rfl)⟩
          rw [hw2']
          (repeat' first | exact rfl | exact trivial | apply And.intro | (simp [getE]; done))
        · have hal2 : l.length ≤ a + B := by simp at hb2; omega
          refine ⟨(2 * B, M), ⟨by show 2 * B = 20 ∨ 2 * B = 40 ∨ 2 * B = 80 ∨ 2 * B = 160; omega, hsM, blkM_last hB hamod hbM (Seg.refl _ _ _) hab (blkM_left hB hamod hal2 (Nat.le_refl _) hbM)⟩, by show 200 - 2 * B < 200 - B; omega, weak_of rfl ?_ rfl (Nat.le_of_ble_eq_true rfl)⟩
          rw [hw2']
          (repeat' first | exact rfl | exact trivial | apply And.intro | (simp [getE]; done))
    · have hk : l.length ≤ B := by simp at hb; omega
      exact ⟨rfl, M, [], hsM, blk_one hk hbM, rfl⟩

theorem sortStable_min (l : List S3) (cap : Option Nat) (hl : l.length ≤ 120) (hok : ∀ x ∈ l, okSq x) :
    CallX G.P 147 [.c (.sl 0 0 3 0 l.length cap), .c (.fn 132 [])] [(0, .arr 3 (l.map r3))]
      (fun sv objs' => sv = .tup [] ∧ ∃ L gs, Seg 0 l.length l L ∧ AscR lessB 0 l.length L ∧ objs' = (0, .arr 3 (L.map r3)) :: gs) := by
  refine call_body (G := G) Try.func147 rfl (by decide) (Nat.le_of_ble_eq_true rfl) ?_
  conv => whnf
  refine frameN [0] (stable_min l cap hl hok) rfl (by decide) ⟨rfl, rfl⟩ rfl ?_
  rintro _ _ ⟨rfl, L, gs, hs, ha, rfl⟩
  refine ⟨[_], gs, rfl, Nat.le_refl _, rfl, ?_⟩
  conv => whnf
  exact ⟨rfl, L, [], hs, ha, rfl⟩

end Go.Proofs.Ytmfdkjjhdjkgpaa
