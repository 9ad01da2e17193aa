/- The reference's record in memory: sessions in order, the notes of each in order; New, power, at. -/
import Derived.Test.YtdikijbkfhimoaaCounts
namespace Go.Proofs.Ytdikijbkfhimoaa
open Go.RowKit Go.Maps

/-- A note of the reference: client, failed, begun, state. -/
structure RN where
  c : Str
  failed : Nat
  begun : Int
  state : Int
def encN (x : RN) : List Value := [sV x.c, .int .i64 (x.failed : Int), .int .i64 x.begun, .int .i64 x.state]
theorem encNOk : Enc Try.prog 81 4 40 encN :=
  ⟨fun _ => rfl, fun x v hv => by simp [encN] at hv; rcases hv with rfl | rfl | rfl | rfl <;> rfl, by omega, by omega, by
    obtain ⟨i0, hi, h1, h2, h3⟩ := info_parts (show (Try.prog.info? 81).map (fun i => (i.zero, i.size, i.bytes)) = some (some (.agg #[.string ⟨#[]⟩, .int .i64 0, .int .i64 0, .int .i64 0]), 4, 40) by kernel_rfl)
    exact ⟨i0, _, hi, h1, h2, h3, rfl⟩⟩
/-- A session of the reference, and where its notes lie. -/
structure RQ where
  id : Str
  l : List RN
  na : Option Addr
  nc : Nat
def encQ (y : RQ) : List Value := [sV y.id, .slice y.na y.l.length y.nc]
theorem encQOk : Enc Try.prog 77 2 40 encQ :=
  ⟨fun _ => rfl, fun x v hv => by simp [encQ] at hv; rcases hv with rfl | rfl <;> rfl, by omega, by omega, by
    obtain ⟨i0, hi, h1, h2, h3⟩ := info_parts (show (Try.prog.info? 77).map (fun i => (i.zero, i.size, i.bytes)) = some (some (.agg #[.string ⟨#[]⟩, .slice none 0 0]), 2, 40) by kernel_rfl)
    exact ⟨i0, _, hi, h1, h2, h3, rfl⟩⟩
/-- The reference's record: its block qb, the row of the sessions Y. -/
structure RAt (w : World) (qb most delay : Nat) (a : Option Addr) (cap : Nat) (Y : List RQ) : Prop where
  blk : w.heap[qb]? = some (.cells #[.int .i64 (most : Int), .int .i64 (delay : Int), .slice a Y.length cap] 66 (0, 0))
  row : w.ownsRow 0 77 2 (.slice a Y.length cap) Y.length (rowV encQ Y)
  each : ∀ y ∈ Y, w.ownsRow 0 81 4 (.slice y.na y.l.length y.nc) y.l.length (rowV encN y.l)
  apart : Y.Pairwise fun y z => ∀ i ∈ fp y.na, i ∉ fp z.na
  rm : 1 ≤ most ∧ most ≤ 8
  rd : 1 ≤ delay ∧ delay ≤ 3600
  len : Y.length ≤ 256
  lens : ∀ y ∈ Y, y.l.length ≤ 256
def rdom (qb : Nat) (a : Option Addr) (Y : List RQ) : List Nat := qb :: (fp a ++ Y.flatMap fun y => fp y.na)
theorem rdom_mem {qb : Nat} {a : Option Addr} {Y : List RQ} {i : Nat} : i ∈ rdom qb a Y ↔ i = qb ∨ i ∈ fp a ∨ ∃ y ∈ Y, i ∈ fp y.na := by
  simp [rdom, List.mem_flatMap]
theorem RAt.kept {S : List Nat} {w w' : World} {qb most delay : Nat} {a : Option Addr} {cap : Nat} {Y : List RQ} (h : RAt w qb most delay a cap Y) (k : Kept S w w') (hS : ∀ i ∈ rdom qb a Y, i ∉ S) : RAt w' qb most delay a cap Y :=
  ⟨k.at h.blk (hS qb (rdom_mem.2 (.inl rfl))), row_kept h.row k (fun i hi => hS i (rdom_mem.2 (.inr (.inl hi)))), fun y hy => row_kept (h.each y hy) k (fun i hi => hS i (rdom_mem.2 (.inr (.inr ⟨y, hy, hi⟩)))), h.apart, h.rm, h.rd, h.len, h.lens⟩
theorem RAt.keptN {w w' : World} {qb most delay : Nat} {a : Option Addr} {cap : Nat} {Y : List RQ} (h : RAt w qb most delay a cap Y) (k : Kept [] w w') : RAt w' qb most delay a cap Y := h.kept k (by simp)
theorem RAt.c0 {w : World} {qb most delay : Nat} {a : Option Addr} {cap : Nat} {Y : List RQ} (h : RAt w qb most delay a cap Y) : w.cell? ⟨qb, 0, none⟩ = some (.int .i64 (most : Int)) := by rw [cell_at h.blk]; rfl
theorem RAt.c1 {w : World} {qb most delay : Nat} {a : Option Addr} {cap : Nat} {Y : List RQ} (h : RAt w qb most delay a cap Y) : w.cell? ⟨qb, 1, none⟩ = some (.int .i64 (delay : Int)) := by rw [cell_at h.blk]; rfl
theorem RAt.c2 {w : World} {qb most delay : Nat} {a : Option Addr} {cap : Nat} {Y : List RQ} (h : RAt w qb most delay a cap Y) : w.cell? ⟨qb, 2, none⟩ = some (.slice a Y.length cap) := by rw [cell_at h.blk]; rfl
/-- A session of the row: its two cells. -/
theorem RAt.get {w : World} {qb most delay : Nat} {a : Option Addr} {cap : Nat} {Y : List RQ} (h : RAt w qb most delay a cap Y) {i : Nat} (hi : i < Y.length) : ∃ b, a = some ⟨b, 0, none⟩ ∧ b < w.heap.size ∧ w.cell? ⟨b, i * 2, none⟩ = some (sV Y[i].id) ∧ w.cell? ⟨b, i * 2 + 1, none⟩ = some (.slice Y[i].na Y[i].l.length Y[i].nc) := by
  obtain ⟨g, cur, rfl, hg, _, _, _⟩ := row_some h.row (by omega)
  have h0 := rowV_get encQOk Y i 0 hi (by omega)
  have h1 := rowV_get encQOk Y i 1 hi (by omega)
  exact ⟨g, rfl, lt_of_heap hg, row_cell h.row h0, row_cell h.row h1⟩
set_option maxHeartbeats 400000 in
theorem rnew_ok (w : World) {most delay : Nat} (h1 : 1 ≤ most) (h2 : most ≤ 8) (h3 : 1 ≤ delay) (h4 : delay ≤ 3600) :
    Calls Try.prog 12 #[.int .i64 (most : Int), .int .i64 (delay : Int)] w fun e w' => e = .returned (.tuple #[.pointer (some ⟨w.heap.size, 0, none⟩), .int .i64 0]) ∧ RAt w' w.heap.size most delay none 0 [] ∧ Kept [] w w' := by
  have i1 : decide ((most : Int) < 1) = false := decide_eq_false (by omega)
  have i2 : decide ((8 : Int) < most) = false := decide_eq_false (by omega)
  have i3 : decide ((delay : Int) < 1) = false := decide_eq_false (by omega)
  have i4 : decide ((3600 : Int) < delay) = false := decide_eq_false (by omega)
  have b1 : (1 : Int) ≤ most := by omega
  have b2 : (most : Int) ≤ 8 := by omega
  have b3 : (1 : Int) ≤ delay := by omega
  have b4 : (delay : Int) ≤ 3600 := by omega
  go_enter Try.func12, Try.ntmps12
  go_wp2
  go_ret2
  exact ⟨rfl, ⟨heap_alloc_new w _, World.ownsRow_nil _ _ _ _, by simp, List.Pairwise.nil, ⟨h1, h2⟩, ⟨h3, h4⟩, by simp, by simp⟩, (Kept.refl [] w).alloc _⟩
set_option maxHeartbeats 400000 in
theorem rnew_bad (w : World) {most delay : Int} (h : most < 1 ∨ 8 < most ∨ delay < 1 ∨ 3600 < delay) :
    Calls Try.prog 12 #[.int .i64 most, .int .i64 delay] w fun e w' => e = .returned (.tuple #[.pointer none, .int .i64 2]) ∧ w = w' := by
  by_cases h1 : most < 1
  · go_enter Try.func12, Try.ntmps12
    go_wp2
    go_ret2
    exact ⟨rfl, rfl⟩
  by_cases h2 : 8 < most
  · go_enter Try.func12, Try.ntmps12
    go_wp2
    go_ret2
    exact ⟨rfl, rfl⟩
  by_cases h3 : delay < 1
  · go_enter Try.func12, Try.ntmps12
    go_wp2
    go_ret2
    exact ⟨rfl, rfl⟩
  have h4 : 3600 < delay := by omega
  go_enter Try.func12, Try.ntmps12
  go_wp2
  go_ret2
  exact ⟨rfl, rfl⟩
set_option maxHeartbeats 1000000 in
theorem power_any (n : Nat) (hn : n ≤ 8) (w : World) :
    Calls Try.prog 45 #[.int .i64 (n : Int)] w fun e w' => e = .returned (.int .i64 ((2 ^ n : Nat) : Int)) ∧ w = w' := by
  have hn1 : (n : Int) ≤ 8 := by omega
  go_enter Try.func45, Try.ntmps45
  go_wp2_with fail
  go_loop [3, 4] (fun pv iv => ∃ (k p : Nat), k ≤ n ∧ iv = .int .i64 (k : Int) ∧ pv = .int .i64 (p : Int) ∧ Hid (p = 2 ^ k) ∧ p ≤ 256) (fun _ iv => n - (intOf iv).toNat)
  case atStart => exact ⟨0, 1, Nat.zero_le _, rfl, rfl, hid rfl, by omega⟩
  case round =>
    obtain ⟨k, p, hk, rfl, rfl, HP, hp⟩ := hrel
    have b1 : (0 : Int) ≤ p := by omega
    have b2 : (p : Int) ≤ 256 := by omega
    have b3 : (0 : Int) ≤ k := by omega
    by_cases hlt : k < n
    · have hb : (k : Int) < n := by omega
      have hq : 2 * p ≤ 256 := by
        rw [HP.out]
        have : 2 ^ (k + 1) ≤ 2 ^ 8 := Nat.pow_le_pow_right (by omega) (by omega)
        rw [Nat.pow_succ] at this
        omega
      go_wp2_with fail
      go_round
      case rel => exact ⟨k + 1, 2 * p, by omega, by go_num, by go_num, hid (by rw [HP.out, Nat.pow_succ]; omega), hq⟩
      case measure => simp [intOf]; omega
    · have hkn : k = n := by omega
      subst hkn
      go_wp2_with fail
      go_ret
      exact ⟨by rw [HP.out]; rfl, rfl⟩
end Go.Proofs.Ytdikijbkfhimoaa
