/- StrengthReaches: the walk. -/
import Derived.Test.YtmipnhdfhgekkaaApp
import Derived.Test.YtmipnhdfhgekkaaShort
import Derived.Deep.DeepCutAuto
import Derived.Deep.LoopGhost
namespace Go.Proofs.Ytmipnhdfhgekkaa
open Go.RowKit

theorem Own.lt {w0 w : World} {a : Option Addr} {cap : Nat} {l : List Prf} (h : Own w0 w a cap l) : ∀ i ∈ fp a, i < w.heap.size := by
  intro i hi
  obtain ⟨cur, hc⟩ := row_blk h.row i hi
  exact lt_of_heap hc
/-- Another list is grown: this one stays. -/
theorem Own.other {w0 w w1 w2 : World} {a b : Option Addr} {cap capb n : Nat} {l m : List Prf} (h : Own w0 w b capb m) (ha : Own w0 w a cap l) (k : Kept [] w w1) (hg : w1.grownBy w2 (Value.slice a n cap).ownBlock) (hd : ∀ i ∈ fp a, i ∉ fp b) : Own w0 w2 b capb m := by
  have hk2 := Kept.of_grown hg
  refine ⟨row_kept (row_kept h.row k (by simp)) hk2 (fun i hi hm => ?_), (h.kept.step k (by simp)).grown hg (fun i hi => .inr (ha.new i (ownBlock_mem hi))), h.new⟩
  rw [ownBlock_fp] at hm
  exact hd i hm hi
theorem apart_push {w0 w w1 : World} {a b : Option Addr} {capb n g cap : Nat} {m : List Prf} (hb : Own w0 w b capb m) (k : Kept [] w w1) (hd : ∀ i ∈ fp a, i ∉ fp b) (hat : (Value.slice a n cap).ownBlock = some g ∨ g = w1.heap.size) : ∀ i ∈ fp (some (⟨g, 0, none⟩ : Addr)), i ∉ fp b := by
  intro i hi hb'
  simp only [fp, List.mem_singleton] at hi
  subst hi
  rcases hat with e | e
  · exact hd _ (ownBlock_mem e) hb'
  · have h1 := hb.lt _ hb'; have h2 := k.size; omega
theorem apart_symm {a b : Option Addr} (h : ∀ i ∈ fp a, i ∉ fp b) : ∀ i ∈ fp b, i ∉ fp a := fun i hi hm => h i hm hi

/-- Where the loop stands. -/
structure St (w0 wr : World) (a1 : Option Addr) (c1 : Nat) (L1 : List Prf) (a2 : Option Addr) (c2 : Nat) (L2 : List Prf) : Prop where
  one : Own w0 wr a1 c1 L1
  two : Own w0 wr a2 c2 L2
  apart : ∀ i ∈ fp a1, i ∉ fp a2
theorem St.later {w0 wr w' : World} {a1 : Option Addr} {c1 : Nat} {L1 : List Prf} {a2 : Option Addr} {c2 : Nat} {L2 : List Prf} (h : St w0 wr a1 c1 L1 a2 c2 L2) (k : Kept [] wr w') : St w0 w' a1 c1 L1 a2 c2 L2 := ⟨h.one.later k, h.two.later k, h.apart⟩
theorem wp_one {ops : Array Oper} {rest : List Oper} {o : Oper} {ac : Act} {Q : Exit → Act → World → Prop} {w0 w : World} {a1 a2 : Option Addr} {c1 c2 : Nat} {L1 L2 n : List Prf} {p : Prf} (hn : n = L1 ++ [p]) (h : St w0 w a1 c1 L1 a2 c2 L2) (hlen : L1.length ≤ 1000)
    (hgd : o.guard = none) (s x : Operand)
    (ho : o.op = .call { callee := .builtin .append, args := #[s, x], argTypes := #[22, 22] }) {m : Nat} (e1 : ac.eval s = .slice a1 m c1) (em : m = L1.length) (e2 : ac.eval x = .slice (some ⟨w.heap.size, 0, none⟩) 1 1)
    (hk : ∀ a' cap' w', St w0 w' a' cap' n a2 c2 L2 → Kept [] w0 w' → w.heap.size ≤ w'.heap.size → (∀ i, i < w.heap.size → i ∉ fp a1 → w'.heap[i]? = w.heap[i]?) → wpList Try.prog ops Q rest (ac.put o.dst (.slice a' n.length cap')) w') :
    wpList Try.prog ops Q (o :: rest) ac (w.alloc (.cells #[.int .i64 p.1, .int .i64 p.2] 36 (0, 0))) := by
  subst hn
  subst em
  obtain ⟨i0, hi, hz0, hz1, hz2⟩ := info_parts infoPrf
  have k0 := (Kept.refl [] w).alloc (.cells #[.int .i64 p.1, .int .i64 p.2] 36 (0, 0))
  refine wpList_append_lies _ hgd s x _ ho 0 36 i0 _ 2 16 Try.underlying22 hi hz0 hz1 hz2 rfl (by omega) _ _ _ e1 (h.one.row.alloc _) ⟨w.heap.size, 0, none⟩ 1 1 [.int .i64 p.1, .int .i64 p.2] e2 rfl (cell_two_new _ _ _ _) (prf_one p) (by omega) (by unfold maxLen; omega) (by omega) (Nat.zero_le _) (w.heap.size + 1) (by simp) ?_
  intro g cap' w1 hown hgrow hat hlt
  have o1 := h.one.push k0 hown hgrow (hat.imp id (fun e => by rw [e]; simp))
  have := hk (some ⟨g, 0, none⟩) cap' w1 ⟨o1, h.two.other h.one k0 hgrow h.apart, apart_push (cap := c1) h.two k0 h.apart (hat.imp id (fun e => by rw [e]; simp))⟩ o1.kept (Nat.le_trans k0.size hgrow.size) (fun i hi hn => by
    rw [hgrow.block i (Nat.lt_of_lt_of_le hi k0.size) (fun e => hn (ownBlock_mem e.symm)), k0.block i hi (by simp)])
  simpa using this
theorem wp_two {ops : Array Oper} {rest : List Oper} {o : Oper} {ac : Act} {Q : Exit → Act → World → Prop} {w0 w : World} {a1 a2 : Option Addr} {c1 c2 : Nat} {L1 L2 n : List Prf} {p : Prf} (hn : n = L2 ++ [p]) (h : St w0 w a1 c1 L1 a2 c2 L2) (hlen : L2.length ≤ 1000)
    (hgd : o.guard = none) (s x : Operand)
    (ho : o.op = .call { callee := .builtin .append, args := #[s, x], argTypes := #[22, 22] }) {m : Nat} (e1 : ac.eval s = .slice a2 m c2) (em : m = L2.length) (e2 : ac.eval x = .slice (some ⟨w.heap.size, 0, none⟩) 1 1)
    (hk : ∀ a' cap' w', St w0 w' a1 c1 L1 a' cap' n → wpList Try.prog ops Q rest (ac.put o.dst (.slice a' n.length cap')) w') :
    wpList Try.prog ops Q (o :: rest) ac (w.alloc (.cells #[.int .i64 p.1, .int .i64 p.2] 36 (0, 0))) :=
  wp_one hn ⟨h.two, h.one, apart_symm h.apart⟩ hlen hgd s x ho e1 em e2 fun a' cap' w' hs _ _ _ => hk a' cap' w' ⟨hs.two, hs.one, apart_symm hs.apart⟩

theorem mk_snoc (now : Int) (q : List Int) (k : Nat) (h : k < q.length) : mk now (q.take (k + 1)) = mk now (q.take k) ++ [(q[k], lim now)] := by
  rw [List.take_succ_eq_append_getElem h]; unfold mk; rw [List.map_append]; rfl
theorem mk_less (now : Int) (q : List Int) (wo : Int) (k : Nat) (h : k < q.length) (hw : (k : Int) ≠ wo) : mk now (lessTo q wo (k + 1)) = mk now (lessTo q wo k) ++ [(q[k], lim now)] := by
  rw [lessTo, if_neg hw]; simp [mk, List.getD_eq_getElem?_getD, h]
theorem mk_less_same (now : Int) (q : List Int) (wo : Int) (k : Nat) (hw : (k : Int) = wo) : mk now (lessTo q wo (k + 1)) = mk now (lessTo q wo k) := by
  rw [lessTo, if_pos hw]
theorem box_set {w : World} {b : Nat} {t : TypeId} {x y : Value} (h : w.heap[b]? = some (.cells #[x, y] t (0, 0))) (u v : Value) (p q : Addr) (hp : p = ⟨b, 0, none⟩ := by rfl) (hq : q = ⟨b, 1, none⟩ := by rfl) : ((w.setCell p u).setCell q v).heap[b]? = some (.cells #[u, v] t (0, 0)) := by
  subst hp; subst hq
  simp [World.setCell, Array.getElem?_modify, h]
theorem lim_zero (now : Int) : lim (lim now + lim 0) = lim now := by unfold lim; omega
theorem add0p_any (t : Int) (w : World) :
    Calls Try.prog 24 #[.int .i64 t, .int .i64 0] w fun e w' => e = .returned (.int .i64 (lim t)) ∧ w = w' := by
  have := cadd_any t 0 w
  rwa [lim_zero] at this

set_option maxHeartbeats 2000000 in
set_option maxRecDepth 100000 in
theorem reaches_walk {w : World} {a : Option Addr} {cap : Nat} {l : List Prf} (h : PrfsAt w a l ∧ l.length ≤ cap ∧ cap ≤ maxLen) (level : Int) (_hl : (Lit.int .i64 level).wf = true) (age : Int) (_ha : (Lit.int .i64 age).wf = true) (now : Int) (_hn : (Lit.int .i64 now).wf = true) (wo : Int) (_hw : (Lit.int .i64 wo).wf = true) :
    Calls Try.prog 8 #[.slice a l.length cap, .int .i64 level, .int .i64 age, .int .i64 now, .int .i64 wo] w fun e w' => e = .returned (.bool true) ∧ Below w.heap.size w w' := by
  have hp := h.1
  clear h _hl _ha _hn _hw
  have HL := hid (many_any (a := a) (cap := cap) (n := l.length) w)
  by_cases t0 : 20 < l.length
  · rw [show decide (20 < l.length) = true by simpa using t0] at HL
    go_enter Try.func8, Try.ntmps8
    go_wp2_with (first
      | (go_at_call 9; refine HL.out.mono ?_; rintro e w' ⟨rfl, rfl⟩)
      | (go_at_call 10; refine (live_any _).mono ?_; rintro e w1 ⟨rfl, k1⟩))
    go_ret
    exact ⟨rfl, k1.bel⟩
  rw [show decide (20 < l.length) = false by simpa using t0] at HL
  have hl20 : l.length ≤ 20 := by omega
  have hl1 : l.length ≤ 1000 := by omega
  clear t0
  have HN := hid (needed_any (cap := cap) hp hl1 level age now)
  by_cases t1 : level < 0 ∨ 3 < level
  · rw [show needE level = 27 by simp [needE, t1], show needL l level age now = [] by simp [needL, t1]] at HN
    rcases t1 with t1 | t1
    · go_enter Try.func8, Try.ntmps8
      go_wp2_with (first
        | (go_at_call 9; refine HL.out.mono ?_; rintro e w' ⟨rfl, rfl⟩)
        | (go_at_call 20; refine HN.out.mono ?_; rintro e w1 ⟨a1, c1, rfl, o1⟩)
        | (go_at_call 10; refine (live_any _).mono ?_; rintro e w2 ⟨rfl, k2⟩))
      go_ret
      exact ⟨rfl, (o1.kept.step k2 (by simp)).bel⟩
    · have t2 : ¬ level < 0 := by omega
      go_enter Try.func8, Try.ntmps8
      go_wp2_with (first
        | (go_at_call 9; refine HL.out.mono ?_; rintro e w' ⟨rfl, rfl⟩)
        | (go_at_call 20; refine HN.out.mono ?_; rintro e w1 ⟨a1, c1, rfl, o1⟩)
        | (go_at_call 10; refine (live_any _).mono ?_; rintro e w2 ⟨rfl, k2⟩))
      go_ret
      exact ⟨rfl, (o1.kept.step k2 (by simp)).bel⟩
  have t2 : 0 ≤ level := by omega
  have t3 : level ≤ 3 := by omega
  rw [show needE level = 0 by simp [needE, t1]] at HN
  have RA := hid (reach_all l level age now t2 t3)
  have RL := hid (reach_less l level age now wo t2 t3)
  have hq3 : (needL l level age now).length ≤ 3 := by
    unfold needL; split
    · simp
    · split
      · simp
      · exact needTo_le _ _ 3
  generalize needL l level age now = q at *
  clear t1
  go_enter Try.func8, Try.ntmps8
  go_wp2_with (first
    | (go_at_call 9; refine HL.out.mono ?_; rintro e w' ⟨rfl, rfl⟩)
    | (go_at_call 20; refine HN.out.mono ?_; rintro e w1 ⟨a1, c1, rfl, o1⟩; have om := Own.made w1; have jm := o1.kept.alloc (.cells #[] 36 (0, 0)); have hp1 := hp.kept jm)
    | (at_builtin; refine wp_app (n := l) rfl om3 hp3 (by simp; omega) rfl _ _ rfl rfl rfl ?_; intro a4 c4 w4 o4)
    | (at_builtin; refine wp_app (n := l) rfl om hp1 (by simp; omega) rfl _ _ rfl rfl rfl ?_; intro a3 c3 w3 o3; have om3 := Own.made w3; have j3 := (o1.kept.step o3.kept (by simp)); have hp3 := hp.kept (j3.alloc (.cells #[] 36 (0, 0)))))
  have HS : St w1 w4 a3 c3 l a4 c4 l := ⟨o3.later o4.kept, o4.rebase o3.kept, fun i hi hm => by have h1 := o3.lt i hi; have h2 := o4.new i hm; omega⟩
  have hfs := o1.seq
  have hk1 := o1.kept
  clear om jm hp1 o3 om3 hp3 o4 HL HN j3
  go_loopg [13, 14, 52] q.length (fun g s13 s14 s52 wr => ∃ (k : Nat) (a1 a2 : Option Addr) (c1 c2 : Nat), k ≤ q.length ∧ g = q.length - k ∧ s52 = .int .i64 k ∧ s13 = .slice a1 (l ++ mk now (q.take k)).length c1 ∧ s14 = .slice a2 (l ++ mk now (lessTo q wo k)).length c2 ∧ St w1 wr a1 c1 (l ++ mk now (q.take k)) a2 c2 (l ++ mk now (lessTo q wo k)))
  case atStart => exact ⟨0, a3, a4, c3, c4, Nat.zero_le _, rfl, rfl, by simp [mk], by simp [mk, lessTo], by simpa [mk, lessTo] using HS⟩
  case round =>
    clear HS
    obtain ⟨k, b1, b2, d1, d2, hk, rfl, rfl, rfl, rfl, hs⟩ := hrel
    by_cases hlt : k < q.length
    · obtain ⟨g, off, rfl, hg, hc⟩ := (SeqAt.kept hfs CInt.lasts hs.one.kept (by simp)).at hlt
      unfold CInt at hc
      rw [Nat.mul_one] at hc
      have hb1 : (0 : Int) ≤ k := by omega
      have hb2 : (k : Int) < q.length := by omega
      have hln := lessTo_le q wo k
      have h1 : (l ++ mk now (q.take k)).length ≤ 1000 := by simp [mk]; omega
      have h2 : (l ++ mk now (lessTo q wo k)).length ≤ 1000 := by simp [mk]; omega
      have E1 := hid (mk_snoc now q k hlt)
      obtain ⟨M1, HM1⟩ : ∃ M1, Hid (M1 = l ++ mk now (q.take k)) := ⟨_, hid rfl⟩
      obtain ⟨M2, HM2⟩ : ∃ M2, Hid (M2 = l ++ mk now (lessTo q wo k)) := ⟨_, hid rfl⟩
      rw [← HM1.out] at h1 hs ⊢
      rw [← HM2.out] at h2 hs ⊢
      go_wp2_with fail
      go_upto_region 11 with fail
      go_cut [16] (fun s16 wx => ∃ pb : Nat, s16 = .pointer (some ⟨pb, 0, none⟩) ∧ wx.heap[pb]? = some (.cells #[.int .i64 q[k], .int .i64 (lim now)] 36 (0, 0)) ∧ Kept [] wr wx ∧ wr.heap.size ≤ pb)
      case first =>
        have HC := hid (show ∀ wq, Kept [] wr wq → wq.cell? ⟨g, off + k, none⟩ = some (.int .i64 q[k]) from fun wq kq => kc kq hc)
        go_region_held3 (fun w' => w'.cell? ⟨g, off + k, none⟩ = some (.int .i64 q[k])) (first
            | exact HC.out _ (((Kept.refl [] wr).drew).step k5 (by simp))
            | exact HC.out _ ((((Kept.refl [] wr).drew).alloc _).step k5 (by simp))
            | exact HC.out _ ((((Kept.refl [] wr).drew).step k5 (by simp)).alloc _)
            | exact HC.out _ ((((((Kept.refl [] wr).drew).alloc _).step k5 (by simp)).setCell (.inr (by simp)) _).setCell (.inr (by simp)) _)
            | exact HC.out _ (((Kept.refl [] wr).drew).alloc _)
            | exact HC.out _ ((Kept.refl [] wr).drew)
            | go_keep)
          (first
            | (go_at_call 24; refine (add0p_any _ _).mono ?_; rintro e w' ⟨rfl, rfl⟩)
            | (go_at_call 25; refine (proof_any _ _ _).mono ?_; rintro e w5 ⟨rfl, k5⟩; (first
              | (have hb5 := k5.at (heap_alloc_new wr.drew (.cells #[.int .i64 0, .int .i64 0] 36 (0, 0))) (by simp); have b50 := cell_at hb5 0; have b51 := cell_at hb5 1; have f50 := free_at hb5 0; have f51 := free_at hb5 1; simp at b50 b51 f50 f51)
              | skip)))
        all_goals (go_wp2_with fail; go_meet)
        all_goals first
          | exact ⟨_, rfl, heap_alloc_new w5 _, (((Kept.refl [] wr).drew).step k5 (by simp)).alloc _, k5.size⟩
          | exact ⟨_, rfl, box_set hb5 _ _ _ _, ((((((Kept.refl [] wr).drew).alloc _).step k5 (by simp)).setCell (.inr (by simp)) _).setCell (.inr (by simp)) _), Nat.le_refl _⟩
      case rest =>
        obtain ⟨pb, rfl, hpb, kx, hpn⟩ := hcut
        have hs5 := hs.later kx
        have p0 := cell_at hpb 0
        have p1 := cell_at hpb 1
        simp at p0 p1
        obtain ⟨N1, HN1⟩ : ∃ N1, Hid (N1 = M1 ++ [(q[k], lim now)]) := ⟨_, hid rfl⟩
        obtain ⟨N2, HN2⟩ : ∃ N2, Hid (N2 = M2 ++ [(q[k], lim now)]) := ⟨_, hid rfl⟩
        by_cases hw : (k : Int) = wo
        · have E2 := hid (mk_less_same now q wo k hw)
          have hwb : ((k : Int) != wo) = false := by simp [hw]
          clear hw
          go_wp2_with (first
            | (at_builtin; refine wp_one (p := (q[k], lim now)) HN1.out hs5 h1 rfl _ _ rfl rfl rfl rfl ?_; intro a7 c7 w7 h7 k7 hz7 hb7))
          have F1 : N1 = l ++ mk now (q.take (k + 1)) := by rw [HN1.out, HM1.out, E1.out, List.append_assoc]
          have F2 : M2 = l ++ mk now (lessTo q wo (k + 1)) := by rw [HM2.out, E2.out]
          go_roundg (q.length - (k + 1))
          case measure => omega
          case rel => exact ⟨k + 1, a7, b2, c7, d2, by omega, rfl, by go_num, by rw [F1], by rw [F2], by rw [← F1, ← F2]; exact h7⟩
        · have E2 := hid (mk_less now q wo k hlt hw)
          have hwb : ((k : Int) != wo) = true := by simpa using hw
          clear hw
          go_wp2_with (first
            | (at_builtin; refine wp_one (p := (q[k], lim now)) HN1.out hs5 h1 rfl _ _ rfl rfl rfl rfl ?_; intro a7 c7 w7 h7 k7 hz7 hb7; have hp7 := (hb7 pb (lt_of_heap hpb) (fun hm => by have := hs.one.lt pb hm; omega)).trans hpb; have p70 := cell_at hp7 0; have p71 := cell_at hp7 1; simp at p70 p71)
            | (at_builtin; refine wp_two (p := (q[k], lim now)) HN2.out h7 h2 rfl _ _ rfl rfl rfl rfl ?_; intro a8 c8 w8 h8))
          have F1 : N1 = l ++ mk now (q.take (k + 1)) := by rw [HN1.out, HM1.out, E1.out, List.append_assoc]
          have F2 : N2 = l ++ mk now (lessTo q wo (k + 1)) := by rw [HN2.out, HM2.out, E2.out, List.append_assoc]
          go_roundg (q.length - (k + 1))
          case measure => omega
          case rel => exact ⟨k + 1, a7, a8, c7, c8, by omega, rfl, by go_num, by rw [F1], by rw [F2], by rw [← F1, ← F2]; exact h8⟩
    · obtain rfl : k = q.length := by omega
      rw [List.take_length] at hs ⊢
      have hln := lessTo_le q wo q.length
      have h1 : (l ++ mk now q).length ≤ 1000 := by simp [mk]; omega
      have h2 : (l ++ mk now (lessTo q wo q.length)).length ≤ 1000 := by simp [mk]; omega
      obtain ⟨M1, HM1⟩ : ∃ M1, Hid (M1 = l ++ mk now q) := ⟨_, hid rfl⟩
      obtain ⟨M2, HM2⟩ : ∃ M2, Hid (M2 = l ++ mk now (lessTo q wo q.length)) := ⟨_, hid rfl⟩
      rw [← HM1.out] at h1 hs RA ⊢
      rw [← HM2.out] at h2 hs RL ⊢
      have m1 := hs.one.seq
      have m2 := fun wq (kq : Kept [] wr wq) => hs.two.seq.kept kq
      have m2 := hid m2
      have hk0 := hk1.step hs.one.kept (by simp)
      by_cases hw0 : wo < 0
      · go_wp2_with (first
          | (go_at_call 18; refine (meets_any m1 h1 level age now).mono ?_; rw [RA.out]; rintro e w5 ⟨rfl, k5⟩)
          | (go_at_call 10; refine (live_any _).mono ?_; rintro e w6 ⟨rfl, k6⟩))
        go_ret
        exact ⟨rfl, ((hk0.step k5 (by simp)).step k6 (by simp)).bel⟩
      · by_cases hw1 : wo < q.length
        · have RX := hid (RL.out (by omega) hw1)
          go_wp2_with (first
            | (go_at_call 18; refine (meets_any (m2.out _ k56) h2 level age now).mono ?_; rw [RX.out]; rintro e w7 ⟨rfl, k7⟩)
            | (go_at_call 18; refine (meets_any m1 h1 level age now).mono ?_; rw [RA.out]; rintro e w5 ⟨rfl, k5⟩)
            | (go_at_call 10; refine (live_any _).mono ?_; rintro e w6 ⟨rfl, k6⟩; have k56 := k5.step k6 (by simp)))
          go_ret
          exact ⟨rfl, ((hk0.step k56 (by simp)).step k7 (by simp)).bel⟩
        · have hw2 : (q.length : Int) ≤ wo := by omega
          go_wp2_with (first
            | (go_at_call 18; refine (meets_any m1 h1 level age now).mono ?_; rw [RA.out]; rintro e w5 ⟨rfl, k5⟩)
            | (go_at_call 10; refine (live_any _).mono ?_; rintro e w6 ⟨rfl, k6⟩))
          go_ret
          exact ⟨rfl, ((hk0.step k5 (by simp)).step k6 (by simp)).bel⟩
end Go.Proofs.Ytmipnhdfhgekkaa
