/- The client, E. (gathered by carve.py out of texts proved for other seats) -/
import Derived.Test.YtbofhmcjcllcaaaClD
namespace Go.Proofs.Ytbofhmcjcllcaaa
open Go Go.Fw

theorem allB_len (r : Rq) : (allB [r]).length ≤ 1024 := by
  unfold allB
  split
  · rename_i h
    have hr : rightB r = true := by simpa [allOk] using h
    have := right_text hr
    rw [show List.map reqL [r] = [reqL r] from rfl, fr_cons]
    simp only [List.length_append, header_len, reqL_len]
    show 4 + (34 + _ + 0) ≤ _
    omega
  · exact Nat.zero_le _

theorem one_rq {h : Heap} {b : Nat} {e : TypeId} {r : Rq} (hs : r.2.2.2.2.1.size < 9223372036854775808) (c : h[b]? = some (.cells (rqC r).toArray e (0, 0))) : RowsQ h ⟨some ⟨b, 0, none⟩, 1, 1⟩ [r] := by
  refine ⟨rfl, fun x hx => ?_, fun i x hx => ?_⟩
  · have : x = r := List.mem_singleton.1 hx
    subst this
    exact hs
  · cases i with
    | zero =>
      simp only [List.getElem?_cons_zero, Option.some.injEq] at hx
      subst hx
      exact ⟨b, 0, rfl, has_block c fun i v hi => by simpa using hi⟩
    | succ n => simp at hx

theorem queue_spec {h : Heap} {T : Nat → Option Nat} {cb : Nat} {c : Cl} (hC : Client h T cb c) {r : Rq} (hs : r.2.2.2.2.1.size < 9223372036854775808) (hl : c.out.length ≤ 1099511627776) {K : Heap → Prop}
    (hk : ∀ h' T', Client h' T' cb { c with out := c.out ++ allB [r] } → Stp T T' h h' → K h') : m_client_Client_queue (some ⟨cb, 0, none⟩) r K h := by
  unfold m_client_Client_queue g_client_Client_queue
  obtain ⟨r1, r2, r3, r4, r5, r6, u⟩ := r
  refine newK fun h1 c1 e1 z1 => ldIk c1 rfl (ldIk c1 rfl (ldIk c1 rfl (ldIk c1 rfl (ldSk c1 rfl (ldIk c1 rfl (newK fun h8 c8 e8 z8 => ?_))))))
  refine All_spec (rs := [(r1, r2, r3, r4, r5, r6, ())]) (one_rq hs c8) (by show 1 ≤ _; decide) fun t9 h11 ho11 e11 => bindI_intro (deref_ ?_)
  have x11 := (e1.trans e8).trans e11
  obtain ⟨rb, mb, so, st, sb, hR⟩ := hC
  have hR11 := hR.ext x11
  have hol : so.len = c.out.length := Bytes.length hR11.out.row
  have htl : t9.len = (allB [(r1, r2, r3, r4, r5, r6, ())]).length := Bytes.length ho11.row
  have hal := allB_len (r1, r2, r3, r4, r5, r6, ())
  refine ldLk (s := so) hR11.cells rfl (ho11.row.rd (Own.app hR11.out (by simp [htl]) (bv_one _) rfl (by omega) (by omega) (Nat.zero_le _) fun t14 h15 ho15 hl15 hu15 hblk => deref_ ?_))
  rw [← List.map_append] at ho15
  refine hR11.setOut ho15 (fun k hk => ?_) (hu15.mono fun k _ h8 => hR11.tso k h8) fun h18 T18 hR18 st18 _ => hk h18 T18 ⟨rb, mb, t14, st, sb, hR18⟩ ((Stp.ofExt x11).trans st18)
  rcases hblk with h9 | h9
  · exact .inl (hR11.tso k (h9 ▸ hk))
  · rw [h9] at hk
    cases hk
    exact .inr (Nat.le_refl _)

theorem at_up (c : Option Addr) (a : Int) (t : Option Addr × Unit) (K : Int → Heap → Prop) (h : Heap) : m_client_Client_at__client_Client_Up_1 c a t K h = g_client_Client_at__client_Client_Tick_1 m_client_Client_Waiting m_client_Client_fall (fun K h => m_client_Client_Up_1 t.1 K h) c a K h := rfl

theorem at_ask (c : Option Addr) (a : Int) (t : Option Addr × Option Addr × Option Addr × Option Addr × Option Addr × Unit) (K : Int → Heap → Prop) (h : Heap) : m_client_Client_at__client_Client_Ask_1 c a t K h = g_client_Client_at__client_Client_Tick_1 m_client_Client_Waiting m_client_Client_fall (fun K h => m_client_Client_Ask_1 t.1 t.2.1 t.2.2.1 t.2.2.2.1 t.2.2.2.2.1 K h) c a K h := rfl

def helloR (name : ByteArray) : Rq := (0, 5, 0, 0, name, 0, ())

def Cl.upE (c : Cl) (at_ : Int) : Int := if c.atE at_ = 0 then (if c.up then 52 else 0) else c.atE at_

def Cl.upS (c : Cl) (at_ : Int) : Cl := if c.atE at_ = 0 then (if c.up then c.tick at_ else { c.tick at_ with up := true, backoff := c.least, out := c.out ++ allB [helloR c.name] }) else c

theorem Up_spec {h : Heap} {T : Nat → Option Nat} {cb : Nat} {c : Cl} (hC : Client h T cb c) (hW : WOK c) (hN : NOK c) (hl : c.out.length ≤ 1099511627776) {at_ : Int} {K : Int → Heap → Prop} (hk : ∀ h' T', Client h' T' cb (c.upS at_) → Stp T T' h h' → K (c.upE at_) h') : m_client_Client_Up (some ⟨cb, 0, none⟩) at_ K h := by
  unfold m_client_Client_Up g_client_Client_Up
  refine newK fun h1 c1 e1 z1 => bindI_intro (ldPk c1 rfl ?_)
  have n1 : T h.size = none := none_new hC.lt (Nat.le_refl _)
  rw [at_up]
  refine at_spec (hC.ext e1) hW (fun he => bindI_intro ?_) fun he h' T' hC' st' => ?_
  · have := hk h1 T (by unfold Cl.upS; rw [if_neg he]; exact hC.ext e1) (Stp.ofExt e1)
    unfold Cl.upE at this
    rw [if_neg he] at this
    exact this
  · have f1 := st'.keep n1 c1
    have stT := (Stp.ofExt (T := T) e1).trans st'
    have hC2 := hC'
    obtain ⟨rb, mb, so, st, sb, hR⟩ := hC'
    have m1 := st'.none_ n1 (blk_lt c1)
    unfold Cl.upE Cl.upS at hk
    rw [if_pos he, if_pos he] at hk
    unfold m_client_Client_Up_1 g_client_Client_Up_1
    refine bindI_intro (deref_ (ldPk f1 rfl (deref_ (ldBk hR.cells rfl ?_))))
    have hup : (c.tick at_).up = c.up := rfl
    rw [hup]
    cases hu : c.up with
    | true =>
      rw [hu] at hk
      exact iteP_true (bindI_intro (bindI_intro (hk h' T' hC2 stT)))
    | false =>
      rw [hu] at hk
      refine iteP_false (deref_ (ldPk f1 rfl (deref_ (ldPk f1 rfl (deref_ (ldPk f1 rfl (deref_ (ldIk hR.cells rfl (deref_ (hR.setF { c.tick at_ with up := true } (by decide) rfl rfl rfl rfl rfl rfl rfl fun h20 hR20 st20 z20 => ?_))))))))))
      have f20 := st20.keep m1 f1
      refine ⟨⟨(cell_block f20).trans rfl, trivial⟩, ⟨(cell_block f20).trans rfl, trivial⟩, deref_ (hR20.setF { c.tick at_ with up := true, backoff := c.least } (by decide) rfl rfl rfl rfl rfl rfl rfl fun h23 hR23 st23 z23 => ?_)⟩
      have m20 := st20.none_ m1 (blk_lt f1)
      have f23 := st23.keep m1 f20
      refine deref_ (ldPk f23 rfl (deref_ (ldPk f23 rfl (deref_ (ldSk hR23.cells rfl (queue_spec (r := helloR c.name) ⟨rb, mb, so, st, sb, hR23⟩ (by have := hN.name; show c.name.size < _; omega) hl fun h33 T33 hC33 st33 => ?_))))))
      have f33 := st33.keep m1 f23
      obtain ⟨rb3, mb3, so3, st3, sb3, hR33⟩ := hC33
      exact ⟨⟨(cell_block hR33.cells).trans rfl, trivial⟩, ⟨(cell_block f33).trans rfl, trivial⟩, bindI_intro (bindI_intro (hk h33 T33 ⟨rb3, mb3, so3, st3, sb3, hR33⟩ (((stT.trans st20).trans st23).trans st33)))⟩

def setId (r : Rq) (n : Int) : Rq := (n, r.2)

def Cl.askR (c : Cl) (at_ : Int) (r : Rq) : (Int × Bool × Int) × Cl :=
  if c.atE at_ = 0 then
    (if rightB (setId r 0) = true ∧ r.2.1 ≠ 5 then
      (if c.up = true ∧ (c.tick at_).waits.length < 256 then
        ((c.next, false, 0), { c.tick at_ with next := c.next + 1, waits := (c.tick at_).waits ++ [(c.next, at_)], out := c.out ++ allB [setId r c.next] })
      else ((0, true, 0), c.tick at_))
    else ((0, false, 6), c.tick at_))
  else ((0, false, c.atE at_), c)

theorem WOK.tick {c : Cl} (hW : WOK c) {at_ : Int} (he : c.atE at_ = 0) : WOK (c.tick at_) := by
  have hz := atE_zero he
  refine ⟨asc_filter hW.asc _, fun p hp => hW.ids p (List.mem_filter.1 hp).1, fun p hp => ?_, ⟨hz.1, hz.2.1⟩, hW.next, ?_⟩
  · have := hW.ats p (List.mem_filter.1 hp).1
    show 0 ≤ p.2 ∧ p.2 ≤ at_
    omega
  · have := hW.sum
    show (c.told ++ List.map _ _).length + (List.filter _ c.waits).length ≤ _
    rw [List.length_append, List.length_map]
    have h1 := List.length_eq_countP_add_countP (p := keepW c.tmo at_) (l := c.waits)
    rw [List.countP_eq_length_filter, List.countP_eq_length_filter] at h1
    have h3 : (List.filter (fun a => decide ¬keepW c.tmo at_ a = true) c.waits) = c.waits.filter fun p => !keepW c.tmo at_ p := by
      congr 1; funext a; cases keepW c.tmo at_ a <;> rfl
    rw [h3] at h1
    omega

theorem want_ne {r : Rq} (h : rightB r = true) : 1 ≤ r.2.1 ∧ r.2.1 ≤ 5 := right_want h

theorem Ask_spec {h : Heap} {T : Nat → Option Nat} {cb : Nat} {c : Cl} (hC : Client h T cb c) (hW : WOK c) (hnx : c.next < 4611686018427387904) (hl : c.out.length ≤ 1099511627776) {at_ : Int} {r : Rq} (hs : r.2.2.2.2.1.size < 9223372036854775808) {K : Int → Bool → Int → Heap → Prop}
    (hk : ∀ h' T', Client h' T' cb (c.askR at_ r).2 → Stp T T' h h' → K (c.askR at_ r).1.1 (c.askR at_ r).1.2.1 (c.askR at_ r).1.2.2 h') : m_client_Client_Ask (some ⟨cb, 0, none⟩) at_ r K h := by
  unfold m_client_Client_Ask g_client_Client_Ask
  refine newK fun h1 c1 e1 z1 => newK fun h3 c3 e3 z3 => newK fun h5 c5 e5 z5 => newK fun h7 c7 e7 z7 => newK fun h9 c9 e9 z9 => bindI_intro ?_
  have d1 := keepE (keepE (keepE (keepE c1 e3) e5) e7) e9
  have d3 := keepE (keepE (keepE c3 e5) e7) e9
  have d5 := keepE (keepE c5 e7) e9
  have d7 := keepE c7 e9
  have x9 := (((e1.trans e3).trans e5).trans e7).trans e9
  refine ldPk d1 rfl (ldIk d3 rfl ?_)
  have n1 : T h.size = none := none_new hC.lt (Nat.le_refl _)
  have n3 : T h1.size = none := none_new hC.lt (by omega)
  have n5 : T h3.size = none := none_new hC.lt (by omega)
  have n7 : T h5.size = none := none_new hC.lt (by omega)
  have n9 : T h7.size = none := none_new hC.lt (by omega)
  have fin : ∀ {h12 : Heap} {T12 : Nat → Option Nat} {n : Int} {f : Bool} {e : Int} {c' : Cl}, Client h12 T12 cb c' → Stp T T12 h h12 → T12 h5.size = none → T12 h7.size = none → h12[h5.size]? = some (.cells #[iv n] 3 (0, 0)) → h12[h7.size]? = some (.cells #[.bool f] 4 (0, 0)) → c.askR at_ r = ((n, f, e), c') →
      (bindI e fun e13 => ldI h12 h5.size 0 .i64 fun t14 => ldB h12 h7.size 0 fun t15 => Fw.st h12 h5.size 0 (Value.int .i64 t14) fun h16 => need (heldL h16 [(h7.size, 0, Value.bool t15)]) <| Fw.st h16 h7.size 0 (Value.bool t15) fun h17 => bindI e13 fun e18 => ldI h17 h5.size 0 .i64 fun t19 => ldB h17 h7.size 0 fun t20 => K t19 t20 e18 h17) := by
    intro h12 T12 n f e c' hC12 st12 m6 m8 q6 q8 ha
    rw [ha] at hk
    refine bindI_intro (ldIk q6 rfl (ldBk q8 rfl (put2 q6 (show 0 < 1 by decide) rfl fun h16 r16 u16 z16 => ?_)))
    have q8' := keepB q8 u16 (by omega)
    refine ⟨⟨(cell_block q8').trans rfl, trivial⟩, put2 q8' (show 0 < 1 by decide) rfl fun h17 r17 u17 z17 => bindI_intro ?_⟩
    have q6' := keepB r16 u17 (by omega)
    refine ldIk q6' rfl (ldBk r17 rfl ?_)
    refine hk h17 T12 ((hC12.upd u16 fun k _ hk => by subst hk; exact m6).upd u17 fun k _ hk => by subst hk; exact m8) ((st12.also u16 fun k hk => by omega).also u17 fun k hk => by omega)
  rw [at_ask]
  refine at_spec (hC.ext x9) hW (fun he => ?_) fun he h' T' hC' st' => ?_
  · exact fin (hC.ext x9) (Stp.ofExt x9) n7 n9 d7 c9 (by unfold Cl.askR; rw [if_neg he])
  · have stT := (Stp.ofExt (T := T) x9).trans st'
    have f1 := st'.keep n1 d1
    have f3 := st'.keep n3 d3
    have f5 := st'.keep n5 d5
    have f7 := st'.keep n7 d7
    have f9 := st'.keep n9 c9
    have m1 := st'.none_ n1 (blk_lt d1)
    have m3 := st'.none_ n3 (blk_lt d3)
    have m5 := st'.none_ n5 (blk_lt d5)
    have m7 := st'.none_ n7 (blk_lt d7)
    have m9 := st'.none_ n9 (blk_lt c9)
    have hWt := hW.tick he
    unfold m_client_Client_Ask_1 g_client_Client_Ask_1
    obtain ⟨r1, r2, r3, r4, r5, r6, u⟩ := r
    refine bindI_intro (deref_ (put2 f5 (show 0 < 6 by decide) rfl fun h11 q5 u11 z11 => deref_ (ldIk q5 rfl (ldIk q5 rfl (ldIk q5 rfl (ldIk q5 rfl (ldSk q5 rfl (ldIk q5 rfl ?_))))))))
    have hC11 := hC'.upd u11 fun k _ hk => by subst hk; exact m5
    have st11 := stT.also u11 fun k hk => by omega
    have g1 := keepB f1 u11 (by omega)
    have g3 := keepB f3 u11 (by omega)
    have g7 := keepB f7 u11 (by omega)
    have g9 := keepB f9 u11 (by omega)
    refine Right_spec (r := (0, r2, r3, r4, r5, r6, ())) hs fun h12 e12 => ?_
    have hC12 := hC11.ext e12
    have st12 := st11.trans (Stp.ofExt e12)
    have k1 := keepE g1 e12
    have k3 := keepE g3 e12
    have k5 := keepE q5 e12
    have k7 := keepE g7 e12
    have k9 := keepE g9 e12
    cases hr : rightB (0, r2, r3, r4, r5, r6, ()) with
    | false => exact iteP_true (bindI_intro (bindI_intro (fin hC12 st12 m7 m9 k7 k9 (by unfold Cl.askR setId; rw [if_pos he, if_neg fun h9 => by rw [hr] at h9; exact absurd h9.1 (by decide)]))))
    | true =>
      refine iteP_false (deref_ (ldIk k5 rfl (bindB_intro ⟨fun h5 => ?_, fun h5 => ?_⟩)))
      · have h5 : r2 = 5 := by simpa using h5
        exact bindI_intro (bindI_intro (fin hC12 st12 m7 m9 k7 k9 (by unfold Cl.askR setId; rw [if_pos he, if_neg fun h9 => h9.2 h5])))
      have h5 : r2 ≠ 5 := by simpa using h5
      have hcond : rightB (setId (r1, r2, r3, r4, r5, r6, u) 0) = true ∧ (r1, r2, r3, r4, r5, r6, u).2.1 ≠ 5 := ⟨hr, h5⟩
      have hC12' := hC12
      obtain ⟨rb, mb, so, st, sb, hR⟩ := hC12'
      have hup : (c.tick at_).up = c.up := rfl
      refine deref_ (ldPk k1 rfl (deref_ (ldBk hR.cells rfl ?_)))
      rw [hup]
      cases hu : c.up with
      | false =>
        refine iteP_true (deref_ (put2 k9 (show 0 < 1 by decide) rfl fun h26 q9 u26 z26 => bindI_intro (bindI_intro ?_)))
        exact fin (hC12.upd u26 fun k _ hk => by subst hk; exact m9) (st12.also u26 fun k hk => by omega) m7 m9 (keepB k7 u26 (by omega)) q9 (by unfold Cl.askR; rw [if_pos he, if_pos hcond, if_neg fun h9 => by rw [hu] at h9; exact absurd h9.1 (by decide)])
      | true =>
        refine iteP_false (deref_ (ldPk k1 rfl (deref_ (ldMk hR.cells rfl (hR.map.len_ (bindB_intro (iteP_dec (fun hge => ?_) fun hlt => ?_)))))))
        · refine deref_ (put2 k9 (show 0 < 1 by decide) rfl fun h26 q9 u26 z26 => bindI_intro (bindI_intro ?_))
          exact fin (hC12.upd u26 fun k _ hk => by subst hk; exact m9) (st12.also u26 fun k hk => by omega) m7 m9 (keepB k7 u26 (by omega)) q9 (by unfold Cl.askR; rw [if_pos he, if_pos hcond, if_neg fun h9 => by have := h9.2; omega])
        · have hlt : (c.tick at_).waits.length < 256 := by omega
          refine deref_ (ldPk k1 rfl (deref_ (ldIk hR.cells rfl (deref_ (ldPk k1 rfl (deref_ (ldIk hR.cells rfl (deref_ (put2 k7 (show 0 < 1 by decide) rfl fun h54 p7 u54 z54 => ?_)))))))))
          have hR54 := hR.upd u54 fun k _ hk => by subst hk; exact m7
          have p1 := keepB k1 u54 (by omega)
          have p3 := keepB k3 u54 (by omega)
          have p5 := keepB k5 u54 (by omega)
          have p9 := keepB k9 u54 (by omega)
          refine ⟨⟨(cell_block hR54.cells).trans rfl, trivial⟩, ⟨(cell_block p1).trans rfl, trivial⟩, deref_ (put2 p5 (show 0 < 6 by decide) rfl fun h57 o5 u57 z57 => ?_)⟩
          have hR57 := hR54.upd u57 fun k _ hk => by subst hk; exact m5
          have o1 := keepB p1 u57 (by omega)
          have o3 := keepB p3 u57 (by omega)
          have o7 := keepB p7 u57 (by omega)
          have o9 := keepB p9 u57 (by omega)
          have hwr : IntKind.wrap .i64 ((c.tick at_).next + 1) = c.next + 1 := wrap64 (by have := hW.next; show -9223372036854775808 ≤ c.next + 1; omega) (by show c.next + 1 ≤ _; omega)
          refine deref_ (ldPk o1 rfl (deref_ (ldIk hR57.cells rfl (deref_ ?_))))
          rw [hwr]
          refine hR57.setF { c.tick at_ with next := c.next + 1 } (by decide) rfl rfl rfl rfl rfl rfl rfl fun h66 hR66 st66 z66 => ?_
          have w1 := st66.keep m1 o1
          have w3 := st66.keep m3 o3
          have w5 := st66.keep m5 o5
          have w7 := st66.keep m7 o7
          have w9 := st66.keep m9 o9
          refine deref_ (ldPk w1 rfl (deref_ (ldMk hR66.cells rfl (deref_ (ldIk w7 rfl (deref_ (ldIk w3 rfl (hR66.map.put (fun p hp => ?_) fun h79 mm u79 z79 => ?_))))))))
          · have := (hWt.ids p hp).2
            have hn : (c.tick at_).next = c.next := rfl
            omega
          obtain ⟨hR79, st79⟩ := hR66.setMap mm u79 z79
          have y1 := st79.keep m1 w1
          have y5 := st79.keep m5 w5
          have y7 := st79.keep m7 w7
          have y9 := st79.keep m9 w9
          refine deref_ (ldPk y1 rfl (deref_ (ldIk y5 rfl (ldIk y5 rfl (ldIk y5 rfl (ldIk y5 rfl (ldSk y5 rfl (ldIk y5 rfl ?_))))))))
          refine queue_spec (r := (c.next, r2, r3, r4, r5, r6, ())) ⟨rb, mb, so, st, sb, hR79⟩ hs hl fun h91 T91 hC91 st91 => bindI_intro (bindI_intro ?_)
          have all := (((((st12.also u54 fun k hk => by omega).also u57 fun k hk => by omega).trans st66).trans st79).trans st91)
          refine fin hC91 all (st91.none_ m7 (blk_lt y7)) (st91.none_ m9 (blk_lt y9)) (st91.keep m7 y7) (st91.keep m9 y9) ?_
          unfold Cl.askR
          rw [if_pos he, if_pos hcond, if_pos ⟨hu, hlt⟩]
          rfl

end Go.Proofs.Ytbofhmcjcllcaaa
