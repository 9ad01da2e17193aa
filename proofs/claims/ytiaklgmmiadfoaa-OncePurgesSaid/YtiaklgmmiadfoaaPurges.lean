/- OncePurges: the walk. -/
import Derived.Test.YtiaklgmmiadfoaaOpen2
namespace Go.Proofs.Ytiaklgmmiadfoaa
open Go.RowKit Go.Maps Go.WideMaps

/-! ### what a purge leaves open -/
theorem live_live (L : List Ent) (n : Int) : live (live L n) n = live L n := by
  unfold live; rw [List.filter_filter]; exact List.filter_congr (fun p _ => by simp)
theorem look_live_dead {L : List Ent} (hu : Uniq L) {k : List UInt8} {o n : Int} (h : look L k = some o) (hn : ¬ n < o) : look (live L n) k = none := by
  cases hl : look (live L n) k with
  | none => rfl
  | some v =>
    have hm := List.mem_filter.1 (look_some hl)
    have := hu.eq hm.1 (look_some h) rfl
    simp at this
    simp [this] at hm
    exact absurd hm.2 hn
theorem seen_purged {L : List Ent} (hu : Uniq L) (k : List UInt8) (now : Int) : seenB (live L (lim now)) k now = seenB L k now := by
  unfold seenB look0
  have h0 := (lim_bd now).1
  cases hl : look L k with
  | none => rw [look_live hl]
  | some o =>
    by_cases ho : lim now < o
    · rw [look_live_some hu hl ho]
    · rw [look_live_dead hu hl ho]
      simp only [Option.getD_none, Option.getD_some]
      rw [Bool.eq_iff_iff, decide_eq_true_eq, decide_eq_true_eq]; omega
theorem live_lt {L : List Ent} (hu : Uniq L) {k : List UInt8} {o n : Int} (h : look L k = some o) (hn : ¬ n < o) : (live L n).length < L.length := by
  rcases Nat.lt_or_ge (live L n).length L.length with h1 | h1
  · exact h1
  · have h2 := live_same (Nat.le_antisymm (live_le L n) h1)
    have h3 := look_live_dead hu h hn
    rw [h2, h] at h3
    cases h3
theorem roomB_purged {L : List Ent} {most n : Int} : roomB (live L n) most n = roomB L most n := by
  have hl := live_le L n
  unfold roomB roomL
  rw [live_live]
  by_cases h1 : (L.length : Int) < most
  · have h2 : ((live L n).length : Int) < most := by omega
    simp [h1, h2]
  · simp [h1]
theorem use_purged {L : List Ent} (hu : Uniq L) {most : Int} (hm : (L.length : Int) ≤ most) (k : List UInt8) (u now : Int) :
    (useL (live L (lim now)) most k u (lim now)).1 = (useL L most k u (lim now)).1 ∧ seenB (useL (live L (lim now)) most k u (lim now)).2 k now = seenB (useL L most k u (lim now)).2 k now := by
  have hs := seen_purged hu k now
  cases hw : wordB k
  · simp only [useL, hw, if_true]; exact ⟨trivial, hs⟩
  by_cases hun : u ≤ lim now
  · simp only [useL, hw, hun, if_true, Bool.true_eq_false, if_false]; exact ⟨trivial, hs⟩
  have hs0 : ∀ A : List Ent, look A k = some u → seenB A k now = true := fun A h => seenB_held h (by omega)
  cases hl : look L k with
  | some o =>
    by_cases ho : lim now < o
    · have h1 := useL_held (most := most) (u := u) hw hl ho
      have h2 := useL_held (most := most) (u := u) hw (look_live_some hu hl ho) ho
      rw [h1, h2]; exact ⟨rfl, hs⟩
    · have hd := look_live_dead hu hl ho
      have hlt := live_lt hu hl ho
      have hb : roomB (live L (lim now)) most (lim now) = true := by
        rw [roomB, roomL, if_pos (by omega)]; simp; omega
      have h1 : (useL L most k u (lim now)).1 = 0 := by simp [useL, hw, hun, hl, ho]
      have h2 : (useL (live L (lim now)) most k u (lim now)).1 = 0 := by simp [useL, hw, hun, hd, hb]
      exact ⟨by rw [h1, h2], by rw [hs0 _ (useL_ok hu h1).2.2, hs0 _ (useL_ok (show Uniq (live L (lim now)) from hu.filter _) h2).2.2]⟩
  | none =>
    have hd := look_live hl (lim now)
    have hb := roomB_purged (L := L) (most := most) (n := lim now)
    cases hr : roomB L most (lim now)
    · rw [hr] at hb
      have hf : ¬ (L.length : Int) < most := by
        intro hf
        rw [roomB, roomL, if_pos hf] at hr
        simp at hr; omega
      have e1 : roomL L most (lim now) = live L (lim now) := by rw [roomL, if_neg hf]
      have e2 : roomL (live L (lim now)) most (lim now) = live L (lim now) := by
        unfold roomL; rw [live_live]; split <;> rfl
      simp [useL, hw, hun, hl, hd, hr, hb, e1, e2]
    · rw [hr] at hb
      have h1 : (useL L most k u (lim now)).1 = 0 := by simp [useL, hw, hun, hl, hr]
      have h2 : (useL (live L (lim now)) most k u (lim now)).1 = 0 := by simp [useL, hw, hun, hd, hb]
      exact ⟨by rw [h1, h2], by rw [hs0 _ (useL_ok hu h1).2.2, hs0 _ (useL_ok (show Uniq (live L (lim now)) from hu.filter _) h2).2.2]⟩

theorem use_purged2 {L : List Ent} (hu : Uniq L) {most : Int} (hm : (L.length : Int) ≤ most) (k : List UInt8) (u now : Int) :
    ∃ c L1 L2, Hid (useL (live L (lim now)) most k u (lim now) = (c, L1)) ∧ Hid (useL L most k u (lim now) = (c, L2)) ∧ Hid (seenB L1 k now = seenB L2 k now) := by
  have h := use_purged hu hm k u now
  generalize useL (live L (lim now)) most k u (lim now) = p at *
  generalize useL L most k u (lim now) = q at *
  obtain ⟨p1, p2⟩ := p
  obtain ⟨q1, q2⟩ := q
  obtain ⟨h1, h2⟩ := h
  exact ⟨p1, p2, q2, rfl, by rw [show p1 = q1 from h1]; rfl, h2⟩
theorem seenq {w : World} {rb mb : Nat} {most : Int} {L : List Ent} (h : RegAt w rb mb most L) {s : ByteArray} (hs : s.size ≤ maxLen) {n : Int} {b : Bool} (e : seenB L s.data.toList n = b) :
    Calls Try.prog 15 #[.pointer (some ⟨rb, 0, none⟩), .string s, .int .i64 n] w fun e w' => e = .returned (.bool b) ∧ ∃ n, w' = w.drewN n := by
  have h1 := seen_reg h s hs n
  rw [e] at h1
  exact h1
/-- Two registers of the program. -/
structure Two (w : World) (rb mb rb2 mb2 : Nat) (most : Int) (L L2 : List Ent) : Prop where
  r1 : RegAt w rb mb most L
  r2 : RegAt w rb2 mb2 most L2
  ne : mb ≠ rb2 ∧ mb ≠ mb2 ∧ mb2 ≠ rb
theorem Two.kept {S : List Nat} {w w' : World} {rb mb rb2 mb2 : Nat} {most : Int} {L L2 : List Ent} (h : Two w rb mb rb2 mb2 most L L2) (k : Kept S w w') (hS : S = []) : Two w' rb mb rb2 mb2 most L L2 := by
  subst hS
  exact ⟨h.r1.kept k (by simp) (by simp), h.r2.kept k (by simp) (by simp), h.ne⟩
theorem Two.left {w w' : World} {rb mb rb2 mb2 : Nat} {most : Int} {L L' L2 : List Ent} (h : Two w rb mb rb2 mb2 most L L2) (hr : RegAt w' rb mb most L') (k : Kept [mb] w w') : Two w' rb mb rb2 mb2 most L' L2 :=
  ⟨hr, h.r2.kept k (by simpa using fun e => h.ne.1 e.symm) (by simpa using fun e => h.ne.2.1 e.symm), h.ne⟩
theorem Two.right {w w' : World} {rb mb rb2 mb2 : Nat} {most : Int} {L L2 L2' : List Ent} (h : Two w rb mb rb2 mb2 most L L2) (hr : RegAt w' rb2 mb2 most L2') (k : Kept [mb2] w w') : Two w' rb mb rb2 mb2 most L L2' :=
  ⟨h.r1.kept k (by simpa using fun e => h.ne.2.2 e.symm) (by simpa using fun e => h.ne.2.1 e), hr, h.ne⟩

set_option maxHeartbeats 1000000 in
set_option maxRecDepth 100000 in
theorem purges_walk {w : World} (most : Int) (_hm : (Lit.int .i64 most).wf = true) {a : Option Addr} {cap : Nat} {l : List OpT} (hl : OpsAt w a l ∧ l.length ≤ cap ∧ cap ≤ maxLen) (x : OpT) (hx : x.id.size ≤ maxLen) :
    Calls Try.prog 5 #[.int .i64 most, .slice a l.length cap, opV x] w fun e w' => e = .returned (.bool true) ∧ Below w.heap.size w w' := by
  obtain ⟨h, hcap, hcm⟩ := hl
  have hf := h.few
  unfold maxLen at hf hcm
  cases hfw : fewB l
  · go_enter Try.func5, Try.ntmps5
    go_wp2_with (first
      | (go_at_call 9; refine (few_start h x).mono ?_; rintro e w0 ⟨rfl, hst⟩; obtain ⟨ho0, ho1, ho2, ho3⟩ := hst.box)
      | (go_at_call 10; refine (alive_any _).mono ?_; rintro e wz ⟨rfl, hkz⟩))
    go_ret
    exact ⟨rfl, (hst.kept.step hkz (by simp)).toBelow (by simp)⟩
  by_cases h100 : (100 : Int) < x.id.size
  · go_enter Try.func5, Try.ntmps5
    go_wp2_with (first
      | (go_at_call 9; refine (few_start h x).mono ?_; rintro e w0 ⟨rfl, hst⟩; obtain ⟨ho0, ho1, ho2, ho3⟩ := hst.box)
      | (go_at_call 10; refine (alive_any _).mono ?_; rintro e wz ⟨rfl, hkz⟩))
    go_ret
    exact ⟨rfl, (hst.kept.step hkz (by simp)).toBelow (by simp)⟩
  by_cases hm : most < 1 ∨ 256 < most
  · go_enter Try.func5, Try.ntmps5
    go_wp2_with (first
      | (go_at_call 9; refine (few_start h x).mono ?_; rintro e w0 ⟨rfl, hst⟩; obtain ⟨ho0, ho1, ho2, ho3⟩ := hst.box)
      | (go_at_call 11; refine (new_no _ hm _).mono ?_; rintro e w' ⟨rfl, rfl⟩)
      | (go_at_call 10; refine (alive_any _).mono ?_; rintro e wz ⟨rfl, hkz⟩))
    go_ret
    exact ⟨rfl, (hst.kept.step hkz (by simp)).toBelow (by simp)⟩
  have hm1 : 1 ≤ most := by omega
  have hm2 : most ≤ 256 := by omega
  clear hm
  have tok : True := trivial
  go_enter Try.func5, Try.ntmps5
  go_wp2_with (first
      | (go_at_call 9; refine (few_start h x).mono ?_; rintro e w0 ⟨rfl, hst⟩; obtain ⟨ho0, ho1, ho2, ho3⟩ := hst.box)
      | (go_at_call 11; have _t := tok; refine (new_ex _ hm1 hm2 _).mono ?_; rintro e w1 ⟨rb, mb, rfl, hr1, hk1, hrb, hmb⟩; clear tok)
      | (go_at_call 11; refine (new_ex _ hm1 hm2 _).mono ?_; rintro e w2 ⟨rb2, mb2, rfl, hr2, hk2, hrb2, hmb2⟩; have hlt := hst.lt; have hmb1 := hr1.mblt; have hrb1 := lt_of_heap hr1.blk; have hT2 : Two w2 rb mb rb2 mb2 most [] [] := ⟨hr1.kept hk2 (by simp) (by simp), hr2, by omega, by omega, by omega⟩; have hS := hid (show w.heap.size ∉ [mb, mb2] by simp; omega); have hkw2 : Kept [mb, mb2] w0 w2 := (hk1.step hk2 (by simp)).mono (by simp); clear hr1 hr2 hk1 hk2))
  have hfar1 := hid (hst.ops.old hmb)
  have hfar2 := hid (hst.ops.old (m := mb2) (by have := hkw2.size; omega))
  have hops := hid (show ∀ wq, Kept [mb, mb2] w0 wq → OpsAt wq a l from fun wq hk => hst.ops.keptS hk (fun h0 y hy => by
    have h1 := hfar1.out h0 y hy
    have h2 := hfar2.out h0 y hy
    simp [h1, h2]))
  have hbox := hid (show ∀ wq, Kept [mb, mb2] w0 wq → OpCells wq w.heap.size 0 x from fun wq hk => hst.box.kept hk hlt hS.out)
  refine (play_reg hT2.r1 (hops.out _ hkw2) hfar1.out).mono ?_
  rintro e w3 ⟨rfl, hr3, hk3⟩
  have hT3 := hT2.left hr3 hk3
  have hkw3 := hkw2.step hk3 (by simp)
  clear hr3 hk3 hT2
  go_wp2_with fail
  refine (play_reg hT3.r2 (hops.out _ hkw3) hfar2.out).mono ?_
  rintro e w4 ⟨rfl, hr4, hk4⟩
  have hT4 := hT3.right hr4 hk4
  have hkw4 := hkw3.step hk4 (by simp)
  clear hr4 hk4 hT3
  obtain ⟨ho40, ho41, ho42, ho43⟩ := hbox.out _ hkw4
  generalize hLd : playL most [] l = L at hT4
  have hu := hT4.r1.uniq
  have hlm := hT4.r1.len
  have hll := live_le L (lim x.now)
  clear hLd
  go_wp2_with (first
    | (go_at_call 19; refine (len_reg hT4.r1).mono ?_; rintro e w' ⟨rfl, rfl⟩)
    | (go_at_call 17; refine (purge_reg hT4.r1 _).mono ?_; rintro e w5 ⟨rfl, hr5, hk5⟩))
  have hT5 := hT4.left hr5 hk5
  have hkw5 := hkw4.step hk5 (by simp)
  clear hr5 hk5
  obtain ⟨ho50, ho51, ho52, ho53⟩ := hbox.out _ hkw5
  have HLL := hid (live_live L (lim x.now))
  have hpz : ((L.length : Int) - (L.length - (live L (lim x.now)).length)) = (live L (lim x.now)).length := by omega
  have hpz2 := hid hpz
  clear hpz
  refine (len_to (c := (L.length : Int) - (L.length - (live L (lim x.now)).length)) hT5.r1 hpz2.out.symm).mono ?_
  rintro e w' ⟨rfl, rfl⟩
  go_wp2_with (first
    | (go_at_call 17; refine (purge_to (c := 0) (L' := live L (lim x.now)) hT5.r1 HLL.out (by omega)).mono ?_; rintro e w6 ⟨rfl, hr6, hk6⟩; have hT6 := hT5.left hr6 hk6; have hkw6 := hkw5.step hk6 (by simp); clear hr6 hk6)
    | (go_at_call 19; refine (len_reg hT6.r2).mono ?_; rintro e w' ⟨rfl, rfl⟩))
  clear HLL hpz2 hT4 hT5 hkw4 hkw5 ho40 ho41 ho42 ho43 ho50 ho51 ho52 ho53
  go_loopw [13] (fun i wr => ∃ k : Nat, k ≤ l.length ∧ i = .int .i64 k ∧ Two wr rb mb rb2 mb2 most (live L (lim x.now)) L ∧ Kept [mb, mb2] w0 wr) (fun i _ => l.length - (intOf i).toNat)
  case atStart => exact ⟨0, Nat.zero_le _, rfl, hT6, hkw6⟩
  case round =>
    obtain ⟨k, hk, rfl, hT, hkw⟩ := hrel
    clear hT6 hkw6
    obtain ⟨ho0', ho1', ho2', ho3'⟩ := hbox.out _ hkw
    have hTq : ∀ n, Two (wr.drewN n) rb mb rb2 mb2 most (live L (lim x.now)) L := fun n => hT.kept ((Kept.refl [] wr).drewN n) rfl
    by_cases hltk : k < l.length
    · have hOp := hops.out _ hkw
      obtain ⟨b, off, rfl, hb, hc0, hc1, hc2, hc3⟩ := hOp.at hltk
      have hb1 : (0 : Int) ≤ k := by omega
      have hb2 : (k : Int) < l.length := by omega
      have hysz := hOp.sized _ (List.getElem_mem hltk)
      generalize l[k] = y at *
      have E1 := hid (seen_purged hu y.id.data.toList x.now)
      go_wp2_with fail
      go_quiet ((first
        | (go_at_call_of 15 (Value.pointer (some ⟨rb, 0, none⟩)); exact Calls.quiet_of (seenq (hTq _).r1 hysz E1.out))
        | (go_at_call_of 15 (Value.pointer (some ⟨rb2, 0, none⟩)); exact Calls.quiet_of (seenq (hTq _).r2 hysz rfl))))
      go_wp2_with fail
      go_roundw
      case rel => exact ⟨k + 1, by omega, by go_num, hTq _, hkw.drewN _⟩
      case measure => simp [intOf]; omega
    · obtain ⟨c, L1, L2, E1, E2, hs⟩ := use_purged2 hu hlm x.id.data.toList (lim x.till) x.now
      have hTd : Two wr.drew rb mb rb2 mb2 most (live L (lim x.now)) L := hTq 1
      have hcell := hid (show ∀ wq, Kept [mb, mb2] w0 wq → wq.cell? ⟨w.heap.size, 1, none⟩ = some (.string x.id) ∧ wq.cell? ⟨w.heap.size, 2, none⟩ = some (.int .i64 x.till) ∧ wq.cell? ⟨w.heap.size, 3, none⟩ = some (.int .i64 x.now) from fun wq hk => (hbox.out wq hk).2)
      have hk0 := hkw.drew
      go_wp2_with fail
      go_region_held3 (fun w' => w'.cell? ⟨w.heap.size, 1, none⟩ = some (.string x.id) ∧ w'.cell? ⟨w.heap.size, 2, none⟩ = some (.int .i64 x.till) ∧ w'.cell? ⟨w.heap.size, 3, none⟩ = some (.int .i64 x.now))
        (first | (exact hcell.out _ hk5) | (exact hcell.out _ hk4) | (exact hcell.out _ hk3) | (exact hcell.out _ hk2) | (exact hcell.out _ hk1) | (exact hcell.out _ hk0))
        (first
          | (go_at_call_of 13 (Value.pointer (some ⟨rb, 0, none⟩)); refine (use_to hTd.r1 hx E1.out).mono ?_; rintro e w1 ⟨rfl, hr1, hk1'⟩; have hT1 := hTd.left hr1 hk1'; have hk1 := hk0.step hk1' (by simp))
          | (go_at_call_of 13 (Value.pointer (some ⟨rb2, 0, none⟩)); refine (use_to hT1.r2 hx E2.out).mono ?_; rintro e w2 ⟨rfl, hr2, hk2'⟩; have hT2 := hT1.right hr2 hk2'; have hk2 := hk1.step hk2' (by simp))
          | (go_at_call_of 15 (Value.pointer (some ⟨rb, 0, none⟩)); refine (seen_to hT2.r1 hx hs.out).mono ?_; rintro e w3 ⟨rfl, hr3, hk3'⟩; have hT3 := hT2.left hr3 hk3'; have hk3 := hk2.step hk3' (by simp))
          | (go_at_call_of 15 (Value.pointer (some ⟨rb2, 0, none⟩)); refine (seen_to hT3.r2 hx rfl).mono ?_; rintro e w4 ⟨rfl, hr4, hk4'⟩; have hT4 := hT3.right hr4 hk4'; have hk4 := hk3.step hk4' (by simp))
          | (go_at_call 10; refine (alive_any _).mono ?_; rintro e w5 ⟨rfl, hk5'⟩; have hk5 := hk4.step hk5' (by simp)))
      go_wp2_with fail
      go_ret
      exact ⟨rfl, (hst.kept.trans hk5 (by simp; omega)).toBelow (by simp)⟩
end Go.Proofs.Ytiaklgmmiadfoaa
