/- Begin of the reference, walked. -/
import Derived.Test.YtdikijbkfhimoaaRl2
import Derived.Deep.RegionHeld3
namespace Go.Proofs.Ytdikijbkfhimoaa
open Go.RowKit Go.Maps

/-- What a writing call of the reference leaves. -/
def RLeft (w w' : World) (qb most delay : Nat) (a : Option Addr) (Y : List RQ) (U' : Log) : Prop := ∃ a' cap' Y', RAt w' qb most delay a' cap' Y' ∧ Rel U' Y' ∧ Kept (rdom qb a Y) w w' ∧ ∀ i ∈ rdom qb a' Y', i ∈ rdom qb a Y ∨ w.heap.size ≤ i
theorem RLeft.same {w w' : World} {qb most delay : Nat} {a : Option Addr} {cap : Nat} {Y : List RQ} {U : Log} (h : RAt w qb most delay a cap Y) (hr : Rel U Y) (k : Kept [] w w') : RLeft w w' qb most delay a Y U :=
  ⟨a, cap, Y, h.keptN k, hr, k.mono (by simp), fun _ hi => .inl hi⟩
theorem RAt.lt {w : World} {qb most delay : Nat} {a : Option Addr} {cap : Nat} {Y : List RQ} (h : RAt w qb most delay a cap Y) : ∀ i ∈ rdom qb a Y, i < w.heap.size := by
  intro i hi
  rcases rdom_mem.1 hi with e | e | ⟨y, hy, e⟩
  · rw [e]; exact lt_of_heap h.blk
  · obtain ⟨cur, hc⟩ := row_blk h.row i e; exact lt_of_heap hc
  · obtain ⟨cur, hc⟩ := row_blk (h.each y hy) i e; exact lt_of_heap hc
theorem RAt.apart3 {w : World} {qb most delay : Nat} {a : Option Addr} {cap : Nat} {Y : List RQ} (h : RAt w qb most delay a cap Y) : qb ∉ fp a ∧ (∀ y ∈ Y, qb ∉ fp y.na) ∧ ∀ y ∈ Y, ∀ i ∈ fp a, i ∉ fp y.na := by
  refine ⟨fun hi => ?_, fun y hy hi => ?_, fun y hy i hi hj => ?_⟩
  · obtain ⟨cur, hc⟩ := row_blk h.row _ hi
    rw [h.blk] at hc
    injection hc with hc
    injection hc with _ hc _
    exact absurd hc (by decide)
  · obtain ⟨cur, hc⟩ := row_blk (h.each y hy) _ hi
    rw [h.blk] at hc
    injection hc with hc
    injection hc with _ hc _
    exact absurd hc (by decide)
  · obtain ⟨cur, hc⟩ := row_blk h.row _ hi
    obtain ⟨cur2, hc2⟩ := row_blk (h.each y hy) _ hj
    rw [hc] at hc2
    injection hc2 with hc2
    injection hc2 with _ hc2 _
    exact absurd hc2 (by decide)
section
variable {w : World} {qb most delay : Nat} {a : Option Addr} {cap : Nat} {Y : List RQ} {U : Log}
/-- A session has been put into the record. -/
theorem RAt.push (h : RAt w qb most delay a cap Y) (hr : Rel U Y) {s : Str} {x : Ses} {L : List RN} {na : Option Addr} {nc k : Nat} {w5 : World} {a5 : Option Addr} {c5 : Nat} {M : List RQ} (hM : insK Y ⟨s, L, na, nc⟩ k = M) (ho : OwnL 77 2 encQ w w5 a5 c5 M) (hn : OwnL 81 4 encN w w5 na nc L) (hlen : Y.length < 256) (hL : L.length ≤ 256) (hx : RelN x L) (hl : alook U s = none) (h1 : LtTo RQ.id s Y k) (h2 : ∀ hk : k < Y.length, ¬ Y[k].id < s) :
    RLeft w (w5.setCell ⟨qb, 2, none⟩ (.slice a5 M.length c5)) qb most delay a Y (U ++ [(s, x)]) := by
  subst hM
  have kq : Kept [qb] w5 (w5.setCell ⟨qb, 2, none⟩ (.slice a5 (insK Y ⟨s, L, na, nc⟩ k).length c5)) := (Kept.refl [qb] w5).setCell (.inl (by simp)) _
  have hqlt := lt_of_heap h.blk
  have h5 := h.keptN ho.kept
  obtain ⟨q1, q2, q3⟩ := h.apart3
  have hblk := heap_setCell_same w5 qb 2 _ _ (.slice a5 (insK Y ⟨s, L, na, nc⟩ k).length c5) h5.blk
  refine ⟨a5, c5, insK Y ⟨s, L, na, nc⟩ k, ⟨hblk, row_kept ho.row kq (fun i hi hm => ?_), fun y hy => ?_, ?_, h.rm, h.rd, ?_, fun y hy => ?_⟩, hr.ins (y := ⟨s, L, na, nc⟩) rfl hx hl h1 h2, (ho.kept.mono (T := rdom qb a Y) (by simp)).step kq (fun i hi => ?_), fun i hi => ?_⟩
  · simp at hm; have := ho.new i hi; omega
  · rcases insK_mem.1 hy with hy | rfl
    · exact row_kept (h5.each y hy) kq (fun i hi hm => by simp at hm; rw [hm] at hi; exact q2 y hy hi)
    · exact row_kept hn.row kq (fun i hi hm => by simp at hm; have := hn.new i hi; omega)
  · refine ((insK_perm Y _ k).pairwise_iff (fun {y z} hyz i hi hj => hyz i hj hi)).2 (List.pairwise_append.2 ⟨h.apart, by simp, fun y hy z hz i hi hj => ?_⟩)
    simp at hz
    subst hz
    have := hn.new i hj
    have := h.lt i (rdom_mem.2 (.inr (.inr ⟨y, hy, hi⟩)))
    omega
  · rw [insK_len]; omega
  · rcases insK_mem.1 hy with hy | rfl
    · exact h.lens y hy
    · exact hL
  · simp at hi; exact rdom_mem.2 (.inl hi)
  · rcases rdom_mem.1 hi with e | e | ⟨y, hy, e⟩
    · exact .inl (rdom_mem.2 (.inl e))
    · exact .inr (ho.new i e)
    · rcases insK_mem.1 hy with hy | rfl
      · exact .inl (rdom_mem.2 (.inr (.inr ⟨y, hy, e⟩)))
      · exact .inr (hn.new i e)
theorem ownl_of_row {α : Type} {E : TypeId} {sz : Nat} {enc : α → List Value} {w : World} {a : Option Addr} {cap : Nat} {l : List α} (h : w.ownsRow 0 E sz (.slice a l.length cap) l.length (rowV enc l)) : OwnL E sz enc { w with heap := #[] } w a cap l :=
  ⟨h, ⟨rfl, rfl, rfl, by simp, fun k hk => by simp at hk⟩, fun i _ => by simp⟩
theorem two {w : World} {b : Nat} {t : TypeId} {v0 v1 : Value} (h : w.heap[b]? = some (.cells #[v0, v1] t (0, 0))) :
    w.cell? ⟨b, 0, none⟩ = some v0 ∧ w.cell? ⟨b, 1, none⟩ = some v1 := by
  refine ⟨?_, ?_⟩ <;> (rw [cell_at h]; rfl)
theorem pre_ne {l : List Str} {i : Nat} {c : Str} (h : hasS (l.take i) c = false) (j : Nat) (hj : j < l.length) (hji : j < i) : l[j] ≠ c := by
  intro e
  have : hasS (l.take i) c = true := (hasS_iff _ _).2 (by rw [← e, List.mem_iff_getElem]; exact ⟨j, by rw [List.length_take]; omega, List.getElem_take⟩)
  rw [h] at this
  cases this
/-- The session that is being made. -/
structure BSt (w wr : World) (g : Nat) (s : ByteArray) (b : Int) (N : Notes) (L : List RN) (na : Option Addr) (nc : Nat) : Prop where
  blk : wr.heap[g]? = some (.cells #[.string s, .slice na L.length nc] 77 (0, 0))
  own : OwnL 81 4 encN w wr na nc L
  rel : RelN (b, N) L
theorem BSt.keptN {w wr w2 : World} {g : Nat} {s : ByteArray} {b : Int} {N : Notes} {L : List RN} {na : Option Addr} {nc : Nat} (h : BSt w wr g s b N L na nc) (k : Kept [] wr w2) : BSt w w2 g s b N L na nc :=
  ⟨k.at h.blk (by simp), h.own.later k, h.rel⟩
theorem BSt.put {w wr w4 : World} {g : Nat} {s : ByteArray} {b : Int} {N N' : Notes} {L L' : List RN} {na a' : Option Addr} {nc c' : Nat} (h : BSt w wr g s b N L na nc) (hg : w.heap.size ≤ g) (ho : OwnL 81 4 encN wr w4 a' c' L') (hr : RelN (b, N') L') : BSt w (w4.setCell ⟨g, 1, none⟩ (.slice a' L'.length c')) g s b N' L' a' c' := by
  have hb := ho.kept.at h.blk (by simp)
  have hlt := lt_of_heap h.blk
  have hblk := heap_setCell_same w4 g 1 _ _ (.slice a' L'.length c') hb
  exact ⟨hblk, (ho.rebase h.own.kept).beside ((Kept.refl [g] w4).setCell (.inl (by simp)) _) (fun i hi => by simp at hi; omega) (fun i hi hf => by simp at hi; have := ho.new i hf; omega), hr⟩
set_option maxHeartbeats 8000000 in
set_option maxRecDepth 100000 in
theorem rbegin_any (h : RAt w qb most delay a cap Y) (hr : Rel U Y) (s : ByteArray) (hs : s.size ≤ maxLen) {ca : Option Addr} {cc : Nat} {cl : List Str} (hcl : StrsAt w ca cl) (hz : ∀ c ∈ cl, c.length ≤ 1000000) (now : Int) :
    Calls Try.prog 14 #[.pointer (some ⟨qb, 0, none⟩), .string s, .slice ca cl.length cc, .int .i64 now] w fun e w' => e = .returned (.int .i64 (beginE U s.data.toList cl)) ∧ RLeft w w' qb most delay a Y (beginU U s.data.toList cl now) := by
  have c0 := h.c0
  have c2 := h.c2
  have hm1 := h.rm.1
  have hf := hcl.few
  have hfew := h.len
  unfold maxLen at hf
  have i0 : decide ((most : Int) = 0) = false := decide_eq_false (by omega)
  have i1 : ((most : Int) == 0) = false := by rw [beq_eq_false_iff_ne]; omega
  have HW := hid (fun W => rword_any s W hs)
  have HA := hid (at_any h s)
  have EU := hid (show beginU U s.data.toList cl now = if beginE U s.data.toList cl = 0 then U ++ [(s.data.toList, (lim now, freshN cl))] else U from rfl)
  have EE := hid (show beginE U s.data.toList cl = if wordB s.data.toList = true then (if (alook U s.data.toList).isSome = true then 7 else if listE cl ≠ 0 then listE cl else if 256 ≤ U.length then 3 else 0) else 5 from rfl)
  have HSAME := hid (fun (W : World) (k : Kept [] w W) => RLeft.same h hr k)
  cases w1 : wordB s.data.toList
  · have E := hid (show beginE U s.data.toList cl = 5 by rw [EE.out, w1]; rfl)
    have EV := hid (show beginU U s.data.toList cl now = U by rw [EU.out, E.out]; rfl)
    rw [E.out, EV.out]
    rw [w1] at HW
    clear w1 h hr EU EE hcl hz
    go_enter Try.func14, Try.ntmps14
    go_wp2_with (go_at_call 36; refine (HW.out _).mono ?_; rintro e w' ⟨rfl, rfl⟩)
    go_ret
    exact ⟨rfl, HSAME.out _ (Kept.refl _ _)⟩
  · rw [w1] at HW
    rcases hr.look s.data.toList with ⟨e, hn⟩ | ⟨i, hi, e, hk, x, hx, hrx⟩
    · rw [e] at HA
      by_cases hlen : 256 < cl.length
      · have E := hid (show beginE U s.data.toList cl = 3 by rw [EE.out, w1, hn]; simp [listE, hlen])
        have EV := hid (show beginU U s.data.toList cl now = U by rw [EU.out, E.out]; rfl)
        rw [E.out, EV.out]
        have j1 : (256 : Int) < cl.length := by omega
        clear w1 h hr EU EE e hn hcl hz
        go_enter Try.func14, Try.ntmps14
        go_wp2_with (first
          | (go_at_call 36; refine (HW.out _).mono ?_; rintro e w' ⟨rfl, rfl⟩)
          | (go_at_call 37; refine HA.out.mono ?_; rintro e w' ⟨rfl, rfl⟩))
        go_ret
        exact ⟨rfl, HSAME.out _ (Kept.refl _ _)⟩
      have HE := hid (show beginE U s.data.toList cl = if listGo [] cl ≠ 0 then listGo [] cl else if 256 ≤ U.length then 3 else 0 by rw [EE.out, w1, hn]; simp [listE, hlen])
      have j1 : (cl.length : Int) ≤ 256 := by omega
      have j2 : decide ((256 : Int) < cl.length) = false := decide_eq_false (by omega)
      have HH := hid h
      have HR := hid hr
      have HCL := hid hcl
      have HZ := hid hz
      have HN := hid hn
      have HS := hid (show BSt w (w.alloc (.cells #[.string s, .slice none 0 0] 77 (0, 0))) w.heap.size s (lim now) (freshN (cl.take 0)) [] none 0 from ⟨heap_alloc_new w _, ⟨World.ownsRow_nil _ _ _ _, (Kept.refl [] w).alloc _, by simp [fp]⟩, RelN.start _⟩)
      clear w1 h hr EE e hn hcl hz hlen
      go_enter Try.func14, Try.ntmps14
      go_wp2_with (first
        | (go_at_call 36; refine (HW.out _).mono ?_; rintro e w' ⟨rfl, rfl⟩)
        | (go_at_call 37; refine HA.out.mono ?_; rintro e w' ⟨rfl, rfl⟩))
      obtain ⟨g, HG⟩ : ∃ g, Hid (g = w.heap.size) := ⟨_, hid rfl⟩
      rw [← HG.out]
      rw [← HG.out] at HS
      go_loopw [10, 11] (fun iv _ wr => ∃ (i : Nat) (L : List RN) (na : Option Addr) (nc : Nat), i ≤ cl.length ∧ iv = .int .i64 (i : Int) ∧ Hid (ListTo cl i) ∧ Hid (BSt w wr g s (lim now) (freshN (cl.take i)) L na nc)) (fun iv _ _ => cl.length - (intOf iv).toNat)
      case atStart => exact ⟨0, [], none, 0, Nat.zero_le _, rfl, hid (ListTo.zero cl), HS⟩
      case round =>
        obtain ⟨i, L, na, nc, hi, rfl, HT, HB⟩ := hrel
        by_cases hlt : i < cl.length
        · obtain ⟨b, off, rfl, hbb, hc⟩ := StrsAt.get (HCL.out.keptN HB.out.own.kept) hlt
          have HCX := hid (fun (W : World) (kw : Kept [] w W) => show W.cell? ⟨b, off + i, none⟩ = some (.string ⟨cl[i].toArray⟩) from by
            obtain ⟨b2, off2, e2, _, hc2⟩ := StrsAt.get (HCL.out.keptN kw) hlt
            injection e2 with e2; injection e2 with e2 e3; subst e2; subst e3
            exact hc2)
          have HLI := hid hlt
          have hsz := HZ.out _ (List.getElem_mem hlt)
          have HWC := hid (fun W => rword_any ⟨cl[i].toArray⟩ W (by simp [ByteArray.size, maxLen]; omega))
          have b1 : (0 : Int) ≤ i := by omega
          have b2 : (i : Int) < cl.length := by omega
          have HWD := hid (HT.out.word hlt)
          unfold sV at hc
          cases hw : wordB cl[i] with
          | false =>
            have HR5 := hid (show beginE U s.data.toList cl = 5 by rw [HE.out, HWD.out hw]; rfl)
            have HRU := hid (show beginU U s.data.toList cl now = U by rw [EU.out, HR5.out]; rfl)
            rw [sized, hw] at HWC
            clear hw
            generalize cl[i] = c at *
            go_wp2_with (go_at_call 36; refine (HWC.out _).mono ?_; rintro e w' ⟨rfl, rfl⟩)
            go_ret
            exact ⟨ret_int HR5.out.symm, by rw [HRU.out]; exact HSAME.out _ HB.out.own.kept⟩
          | true =>
            rw [sized, hw] at HWC
            have HW1 := hid hw
            clear hw
            obtain ⟨c, HC⟩ : ∃ c, Hid (c = cl[i]) := ⟨_, hid rfl⟩
            replace hc : wr.cell? ⟨b, off + i, none⟩ = some (.string ⟨c.toArray⟩) := by rw [HC.out]; exact hc
            replace HWC := hid (fun W => show Calls Try.prog 36 #[.string ⟨c.toArray⟩] W fun e w' => e = .returned (.bool true) ∧ W = w' from by rw [HC.out]; exact HWC.out W)
            replace HCX := hid (fun (W : World) (kw : Kept [] w W) => show W.cell? ⟨b, off + i, none⟩ = some (.string ⟨c.toArray⟩) from by rw [HC.out]; exact HCX.out W kw)
            go_wp2_with (go_at_call 36; refine (HWC.out _).mono ?_; rintro e w' ⟨rfl, rfl⟩)
            go_loopw [11] (fun kv wq => ∃ (k n : Nat), k ≤ i ∧ kv = .int .i64 (k : Int) ∧ wq = wr.drewN n ∧ Hid (NoneTo (eqS c) (cl.take i) k)) (fun kv _ => i - (intOf kv).toNat)
            case atStart => exact ⟨0, 0, Nat.zero_le _, rfl, rfl, hid (NoneTo.zero _ _)⟩
            case round =>
              obtain ⟨k, n, hk, rfl, rfl, HNT⟩ := hrel
              by_cases hki : k < i
              · obtain ⟨b3, off3, e3, _, hd⟩ := StrsAt.get (HCL.out.keptN HB.out.own.kept) (show k < cl.length by omega)
                injection e3 with e3; injection e3 with e3 e4; subst e3; subst e4
                unfold sV at hd
                have b3 : (0 : Int) ≤ k := by omega
                have b4 : (k : Int) < i := by omega
                have b5 : (k : Int) < cl.length := by omega
                have hkt : k < (cl.take i).length := by rw [List.length_take]; omega
                have hge : (cl.take i)[k] = cl[k] := List.getElem_take
                cases hp : eqS c cl[k] with
                | false =>
                  have HN2 := hid (HNT.out.next hkt (by rw [hge]; exact hp))
                  have z1 : (cl[k] == c) = false := hp
                  clear hp hge
                  generalize cl[k] = y at *
                  go_wp2_with fail
                  go_quiet (fail)
                  go_wp2_with fail
                  go_roundw
                  case rel => exact ⟨k + 1, _, by omega, by go_num, rfl, HN2⟩
                  case measure => simp [intOf]; omega
                | true =>
                  have HR7 := hid (show beginE U s.data.toList cl = 7 by rw [HE.out, HT.out.twice HLI.out HW1.out (any_yes hkt (by rw [hge]; rw [HC.out] at hp; exact hp))]; rfl)
                  have HRU := hid (show beginU U s.data.toList cl now = U by rw [EU.out, HR7.out]; rfl)
                  have z1 : (cl[k] == c) = true := hp
                  clear hp hge
                  generalize cl[k] = y at *
                  go_wp2_with fail
                  go_quiet (fail)
                  go_wp2_with fail
                  go_ret
                  exact ⟨ret_int HR7.out.symm, by rw [HRU.out]; exact HSAME.out _ ((HB.out.own.kept.drewN _).drewN _)⟩
              · have hns : hasS (cl.take i) cl[i] = false := any_no (p := eqS cl[i]) (l := cl.take i) (k := k) (by have := HNT.out; rw [HC.out] at this; exact this) (by rw [List.length_take]; omega)
                have HNX := hid (HT.out.next HLI.out HW1.out hns)
                have HPR := hid (pre_ne hns)
                clear hns
                have b4 : (i : Int) ≤ k := by omega
                have b5 : decide ((k : Int) < i) = false := decide_eq_false (by omega)
                have HBI := hid (HB.out.keptN ((Kept.refl [] wr).drewN n))
                have HCI := hid (HCX.out _ (HB.out.own.kept.drewN n))
                have HDI := hid (fun l' k' (h1 : LtTo RN.c c L k') (h2 : ∀ hk : k' < L.length, ¬ L[k'].c < c) (hl' : insK L ⟨c, 0, lim now, 0⟩ k' = l') => show RelN (lim now, freshN (cl.take (i + 1))) l' from by
                  rw [← hl']
                  rw [HC.out] at h1 h2 ⊢
                  exact HB.out.rel.fresh HLI.out HPR.out h1 h2)
                obtain ⟨wq, HWQ⟩ : ∃ wq, Hid (wq = wr.drewN n) := ⟨_, hid rfl⟩
                rw [← HWQ.out] at HBI HCI ⊢
                have hLl : L.length = i := by have := HB.out.rel.len; simp [freshN] at this; omega
                have HINS := hid (fun W (k : Kept [] wq W) => show Calls Try.prog 38 #[.slice na L.length nc, .agg #[.string ⟨c.toArray⟩, .int .i64 0, .int .i64 (lim now), .int .i64 0]] W (fun e w' => ∃ a' c' k, e = .returned (.slice a' (insK L ⟨c, 0, lim now, 0⟩ k).length c') ∧ OwnL 81 4 encN W w' a' c' (insK L ⟨c, 0, lim now, 0⟩ k) ∧ LtTo RN.c c L k ∧ ∀ hk : k < L.length, ¬ L[k].c < c) from rinsert_any (cap := nc) ((HBI.out.keptN k).own.seq encNOk) (by omega) HBI.out.own.cap.1 ⟨c, 0, lim now, 0⟩)
                have HCE := hid (fun W (k : Kept [] wq W) => show W.cell? ⟨g, 1, none⟩ = some (.slice na L.length nc) ∧ W.frozen? ⟨g, 1, none⟩ = false ∧ W.cell? ⟨b, off + i, none⟩ = some (.string ⟨c.toArray⟩) from
                  ⟨by rw [cell_at (HBI.out.keptN k).blk]; rfl, free_at (HBI.out.keptN k).blk 1, (k.cell (p := ⟨b, off + i, none⟩) (by rw [HWQ.out]; exact hbb) (by simp)).trans HCI.out⟩)
                have HLL := hid hLl
                clear hc hbb HCX HWD HPR HNT HWC hLl
                go_wp2_with fail
                have hce := HCE.out _ (Kept.refl [] wq)
                obtain ⟨hce1, hce2, hce3⟩ := hce
                go_region_with (first
                    | (go_at_call 38; refine (HINS.out _ (Kept.refl [] wq).drew).mono ?_; rintro e w4 ⟨a4, c4, k4, rfl, o4, q1, q2⟩; have z4 := (HCE.out _ ((Kept.refl [] wq).drew.step o4.kept (by simp))).2.1; have y4 := (HCE.out _ ((Kept.refl [] wq).drew.step o4.kept (by simp))).1)
                    | (go_at_call 39; refine (limit_any _ _).mono ?_; rintro e w5 ⟨rfl, rfl⟩))
                all_goals
                  go_wp2_with fail
                  go_roundw
                  case rel => exact ⟨i + 1, _, a4, c4, by omega, by go_num, HNX, hid (HBI.out.put (by rw [HG.out]; exact Nat.le_refl _) (o4.rebase (Kept.refl [] wq).drew) (HDI.out _ _ q1 q2 rfl))⟩
                  case measure => simp [intOf]; omega
        · obtain rfl : i = cl.length := by omega
          have HL0 := hid (HT.out.all (Nat.le_refl _))
          rw [List.take_length] at HB
          have HYU := hid HR.out.len
          have hyl : (Y.length : Int) ≤ 256 := by omega
          have HCQ := hid (fun (W : World) (k : Kept [] w W) => (HH.out.keptN k).c2)
          have cw := HCQ.out _ HB.out.own.kept
          by_cases hm : 256 ≤ Y.length
          · have E := hid (show beginE U s.data.toList cl = 3 by rw [HE.out, HL0.out, ← HYU.out]; simp [hm])
            have EV := hid (show beginU U s.data.toList cl now = U by rw [EU.out, E.out]; rfl)
            have hm' : (256 : Int) ≤ Y.length := by omega
            go_wp2_with fail
            go_ret
            exact ⟨ret_int E.out.symm, by rw [EV.out]; exact HSAME.out _ HB.out.own.kept⟩
          · have E := hid (show beginE U s.data.toList cl = 0 by rw [HE.out, HL0.out, ← HYU.out]; simp [hm])
            have EV := hid (show beginU U s.data.toList cl now = U ++ [(s.data.toList, (lim now, freshN cl))] by rw [EU.out, E.out]; rfl)
            have HYL := hid (show Y.length < 256 by omega)
            have HLL := hid (show L.length ≤ 256 by have := HB.out.rel.len; simp [freshN] at this; omega)
            have hm' : decide ((256 : Int) ≤ Y.length) = false := decide_eq_false (by omega)
            have hm2 : (Y.length : Int) < 256 := by omega
            have HQB := hid (fun (W : World) (k : Kept [] wr W) => (HH.out.keptN (HB.out.own.kept.step k (by simp))).blk)
            have HRL := hid (row_list encQOk (HH.out.keptN HB.out.own.kept).row)
            clear hm
            go_wp2_with fail
            go_loop [12] (fun kv => ∃ k : Nat, k ≤ Y.length ∧ kv = .int .i64 (k : Int) ∧ Hid (LtTo RQ.id s.data.toList Y k)) (fun kv => Y.length - (intOf kv).toNat)
            case atStart => exact ⟨0, Nat.zero_le _, rfl, hid (LtTo.zero _ _ _)⟩
            case round =>
              obtain ⟨k, hk, rfl, HT2⟩ := hrel
              obtain ⟨M1, HM1⟩ : ∃ M1, Hid (M1 = [] ++ Y.take k) := ⟨_, hid rfl⟩
              obtain ⟨M2, HM2⟩ : ∃ M2, Hid (M2 = M1 ++ [(⟨s.data.toList, L, na, nc⟩ : RQ)]) := ⟨_, hid rfl⟩
              obtain ⟨M3, HM3⟩ : ∃ M3, Hid (M3 = M2 ++ Y.drop k) := ⟨_, hid rfl⟩
              have HM := hid (show insK Y (⟨s.data.toList, L, na, nc⟩ : RQ) k = M3 by rw [HM3.out, HM2.out, HM1.out]; rfl)
              have hcap : Y.length ≤ cap := (ownl_of_row HH.out.row).cap.1
              by_cases hlt : k < Y.length
              · obtain ⟨b, rfl, hb, d0, d1⟩ := (HH.out.keptN HB.out.own.kept).get hlt
                unfold sV at d0
                have hb1 : (0 : Int) ≤ k := by omega
                have hb2 : (k : Int) < Y.length := by omega
                have HLE := hid (less_eq Y[k].id s.toList)
                by_cases hc : Y[k].id < s.data.toList
                · have HNT := hid (HT2.out.next hlt hc)
                  have z1 : Op.bytesLess Y[k].id s.toList = true := by rw [HLE.out, ByteArray.toList_eq]; exact decide_eq_true hc
                  clear hc d1
                  generalize Y[k] = y at *
                  go_wp2_with fail
                  go_round
                  case rel => exact ⟨k + 1, by omega, by go_num, HNT⟩
                  case measure => simp [intOf]; omega
                · have HSRC := hid (fun (W : World) (kw : Kept [] wr W) => (show ListAt 2 encQ W (some ⟨b, k * 2, none⟩) (Y.drop k) from by have h0 := (HRL.out.keptN kw).post hlt hcap; rwa [Nat.zero_add] at h0))
                  have HE2 := hid (show ∀ hk : k < Y.length, ¬ Y[k].id < s.data.toList from fun _ => hc)
                  have z1 : Op.bytesLess Y[k].id s.toList = false := by rw [HLE.out, ByteArray.toList_eq]; exact decide_eq_false hc
                  clear hc d1
                  generalize Y[k] = y at *
                  go_wp2_with (first
                    | (at_builtin; refine wp_appL encQOk Try.underlying64 HM3.out (w0 := wr) o2 ((HSRC.out _ o2.kept)) (show M2.length + (Y.drop k).length ≤ 1000000 by rw [HM2.out, HM1.out]; simp; omega) rfl _ _ rfl rfl rfl rfl (show Y.length - k = (Y.drop k).length by rw [List.length_drop]) ?_; intro a3 cc3 w4 o3 k3 f3; have z9 := free_at (HQB.out _ o3.kept) 2; have y9 := cell_at (HQB.out _ o3.kept) 2)
                    | (at_builtin; (refine wp_appL encQOk Try.underlying64 HM2.out (w0 := wr) (o1.later ((Kept.refl [] _).alloc _)) (list_box encQOk (heap_alloc_new _ _) (by simp [rowV, encQ, sV]) (by simp [maxLen])) (show M1.length + 1 ≤ 1000000 by rw [HM1.out]; simp; omega) rfl _ _ rfl rfl rfl rfl rfl ?_); intro a2 cc2 w3 o2 k2 f2; have y3 := cell_at (HQB.out _ o2.kept) 2; simp at y3)
                    | (at_builtin; refine wp_appL encQOk Try.underlying64 HM1.out (w0 := wr) (OwnL.start _) (HRL.out.keptN (Kept.refl [] wr) |>.pre hk hcap) (show 0 + (Y.take k).length ≤ 1000000 by rw [List.length_take]; omega) rfl _ _ rfl rfl rfl rfl (show k = (Y.take k).length by rw [List.length_take]; omega) ?_; intro a1 cc1 w2 o1 k1 f1; obtain ⟨e0, e1⟩ := two (o1.kept.at HB.out.blk (by simp))))
                  all_goals
                    go_ret
                    rw [E.out, EV.out]
                    exact ⟨rfl, HH.out.push HR.out HM.out (o3.rebase HB.out.own.kept) (HB.out.own.later o3.kept) HYL.out HLL.out HB.out.rel HN.out HT2.out HE2.out⟩
              · have HE2 := hid (show ∀ hk : k < Y.length, ¬ Y[k].id < s.data.toList from fun h => absurd h hlt)
                have hb1 : (0 : Int) ≤ k := by omega
                have hb4 : ¬ ((k : Int) < Y.length) := by omega
                go_wp2_with (first
                  | (at_builtin; refine wp_appL encQOk Try.underlying64 HM3.out (w0 := wr) o2 (show ListAt 2 encQ w3 _ (Y.drop k) from by rw [List.drop_of_length_le (by omega)]; exact list_nil _ _) (show M2.length + (Y.drop k).length ≤ 1000000 by rw [HM2.out, HM1.out]; simp; omega) rfl _ _ rfl rfl rfl rfl (show Y.length - k = (Y.drop k).length by rw [List.length_drop]) ?_; intro a3 cc3 w4 o3 k3 f3; have z9 := free_at (HQB.out _ o3.kept) 2; have y9 := cell_at (HQB.out _ o3.kept) 2)
                  | (at_builtin; (refine wp_appL encQOk Try.underlying64 HM2.out (w0 := wr) (o1.later ((Kept.refl [] _).alloc _)) (list_box encQOk (heap_alloc_new _ _) (by simp [rowV, encQ, sV]) (by simp [maxLen])) (show M1.length + 1 ≤ 1000000 by rw [HM1.out]; simp; omega) rfl _ _ rfl rfl rfl rfl rfl ?_); intro a2 cc2 w3 o2 k2 f2; have y3 := cell_at (HQB.out _ o2.kept) 2; simp at y3)
                  | (at_builtin; refine wp_appL encQOk Try.underlying64 HM1.out (w0 := wr) (OwnL.start _) (HRL.out.takeA k) (show 0 + (Y.take k).length ≤ 1000000 by rw [List.length_take]; omega) rfl _ _ rfl rfl rfl rfl (show k = (Y.take k).length by rw [List.length_take]; omega) ?_; intro a1 cc1 w2 o1 k1 f1; obtain ⟨e0, e1⟩ := two (o1.kept.at HB.out.blk (by simp))))
                all_goals
                  go_ret
                  rw [E.out, EV.out]
                  exact ⟨rfl, HH.out.push HR.out HM.out (o3.rebase HB.out.own.kept) (HB.out.own.later o3.kept) HYL.out HLL.out HB.out.rel HN.out HT2.out HE2.out⟩
    · rw [e] at HA
      have E := hid (show beginE U s.data.toList cl = 7 by rw [EE.out, w1, hx]; rfl)
      have EV := hid (show beginU U s.data.toList cl now = U by rw [EU.out, E.out]; rfl)
      rw [E.out, EV.out]
      have j1 : (0 : Int) ≤ i := by omega
      clear w1 h hr EU EE e hrx hx hk hcl hz
      go_enter Try.func14, Try.ntmps14
      go_wp2_with (first
        | (go_at_call 36; refine (HW.out _).mono ?_; rintro e w' ⟨rfl, rfl⟩)
        | (go_at_call 37; refine HA.out.mono ?_; rintro e w' ⟨rfl, rfl⟩))
      go_ret
      exact ⟨rfl, HSAME.out _ (Kept.refl _ _)⟩
end
end Go.Proofs.Ytdikijbkfhimoaa
