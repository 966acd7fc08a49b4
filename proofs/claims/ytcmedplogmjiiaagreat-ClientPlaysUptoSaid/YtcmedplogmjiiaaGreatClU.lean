/- One deed on both clients. -/
import Derived.Test.YtcmedplogmjiiaaGreatClT
namespace Go.Proofs.YtcmedplogmjiiaaGreat
open Go Go.Fw

structure Dd where
  kind : Int
  at_ : Int
  r : Rq
  b : List UInt8
abbrev Deed21 := Int × Int × Int × Int × Int × Int × ByteArray × Int × Sl × Unit
def ddC (d : Dd) (s : Sl) : List Value := [iv d.kind, iv d.at_] ++ rqC d.r ++ [slV s]
def ddV (d : Dd) (s : Sl) : Deed21 := (d.kind, d.at_, d.r.1, d.r.2.1, d.r.2.2.1, d.r.2.2.2.1, d.r.2.2.2.2.1, d.r.2.2.2.2.2.1, s, ())

theorem Handed.own {h : Heap} {base : Nat} {s : Sl} {l : List UInt8} (hs : Handed h base s l) : Own h base s 1 (l.map bv) := by
  obtain ⟨b, e, rfl, h1, hb, hl⟩ := hs.at_
  refine ⟨by simp, by simp, hl, .inr ⟨b, _, e, rfl, h1, hb, by simp [pat], ?_⟩⟩
  simp only [Nat.mul_one]
  rw [List.take_append_of_le_length (by simp), List.take_of_length_le (by simp)]
theorem Send_tag {h : Heap} {T : Nat → Option Nat} {cb : Nat} {c : Cl} (hC : Client h T cb c) {K : Sl → Heap → Prop}
    (hk : ∀ s h' T', Own h' 0 s 1 (c.out.map bv) → (∀ k, s.blk = some k → T k = some 3) → Client h' T' cb { c with out := [] } → Stp T T' h h' → K s h') : m_client_Client_Send (some ⟨cb, 0, none⟩) K h := by
  obtain ⟨rb, mb, so, st, sb, hR⟩ := hC
  refine iteP_false (deref_ (ldLk (s := so) hR.cells rfl (deref_ (hR.setOut (x := ⟨none, 0, 0⟩) (l := []) (Own.nil _ _ 1) (fun k hk => by simp [Sl.blk] at hk) (Upd.refl _ _) fun h3 T3 hR3 st3 u3 => ?_))))
  refine hk so h3 T3 (hR.out.congr fun k hk hl _ => u3.old k hl fun h9 => ?_) hR.tso ⟨rb, mb, ⟨none, 0, 0⟩, st, sb, hR3⟩ st3
  have := hR.tso k hk
  rw [h9, hR.tcb] at this
  cases this

theorem Own.storeV {h : Heap} {base : Nat} {s : Sl} {vs : List Value} (ho : Own h base s 1 vs) {i : Int} {m : Nat} (hi : i = (m : Int)) (hm : m < s.len) {v : Value} (hv : oneCell v = true) {K : Heap → Prop}
    (hk : ∀ h', Own h' base s 1 (vs.set m v) → Upd (fun k => s.blk = some k) h h' → h'.size = h.size → K h') : idxA s.ptr s.len i 1 fun b o => Fw.st h b o v K := by
  subst hi
  have hcap := ho.cap
  rcases ho.at_ with ⟨_, h0⟩ | ⟨b, c, e, hp, hb, hblk, hc, hvs⟩
  · omega
  · refine ⟨b, 0, hp, by omega, by omega, ?_⟩
    have e0 : 0 + (m : Int).toNat * 1 = m := by omega
    rw [e0]
    refine put2 hblk (by omega) hv fun h' c' u' z' => hk h' ⟨?_, hcap, ho.big, .inr ⟨b, _, e, hp, hb, c', by simpa using hc, ?_⟩⟩ (u'.mono fun k _ hk => by subst hk; simp [Sl.blk, hp]) z'
    · have := ho.len; simpa using this
    · rw [hvs, Array.toList_setIfInBounds, List.take_set]

/-- nines over a row of one's own -/
theorem nines {h : Heap} {base : Nat} {s : Sl} {l : List UInt8} (hs : Handed h base s l) {K : Bool → Heap → Prop} (hk : ∀ h', Upd (fun k => s.blk = some k) h h' → h'.size = h.size → K true h') :
    bindI 0 fun i => loopM (σ := Int × Unit) (fun J88 s9 h89 => (fun (i87 : Int) => iteP (decide (i87 < (s.len : Int))) (idxA s.ptr s.len i87 1 fun b90 o => Fw.st h89 b90 o (Value.int .u8 9) fun h91 => bindI (IntKind.wrap .i64 (i87 + 1)) fun i92 => J88 (i92, ()) h91) (K true h89)) s9.1) (i, ()) h := by
  have ho := hs.own
  have hbig := ho.big
  have hcap := ho.cap
  refine bindI_intro (loopM_intro (fun p h' => ∃ (k : Nat) (vs : List Value), p.1 = (k : Int) ∧ k ≤ s.len ∧ Own h' base s 1 vs ∧ Upd (fun k => s.blk = some k) h h' ∧ h'.size = h.size) (fun p _ => s.len - p.1.toNat) ⟨0, _, rfl, Nat.zero_le _, ho, Upd.refl _ _, rfl⟩ ?_)
  rintro ⟨i, u⟩ h3 ⟨k, vs, hi, hkl, ho3, u3, z3⟩
  dsimp only at hi
  subst hi
  dsimp only
  refine iteP_dec (fun hlt => ?_) fun hge => hk h3 u3 z3
  refine Own.storeV ho3 (m := k) rfl (by omega) rfl fun h' o' u' z' => bindI_intro ?_
  rw [wrap64 (n := (k : Int) + 1) (by omega) (by omega)]
  exact ⟨⟨k + 1, _, by omega, by omega, o', u3.trans u', by omega⟩, by omega⟩

theorem do_spec {h : Heap} {T T2 : Nat → Option Nat} {cb rb : Nat} {c : Cl} {n : Nat} (hT : Two h T T2 cb rb c c) (hI : On2 c n) (hn : n ≤ 1000) {d : Dd} {s : Sl} (hb : Bytes h s d.b) (hbT : d.b ≠ [] → ∀ k, s.blk = some k → T k = none ∧ T2 k = none) (hl : d.b.length ≤ 1048576) (hrs : d.r.2.2.2.2.1.size < 9223372036854775808) {K : Bool → Heap → Prop}
    (hk : ∀ h' T' T2', Two h' T' T2' cb rb (doP c d.kind d.at_ d.r d.b) (doP c d.kind d.at_ d.r d.b) → Go2 T T2 T' T2' h h' → K true h') : m_spillwaylaw21_do (some ⟨cb, 0, none⟩) (some ⟨rb, 0, none⟩) (ddV d s) K h := by
  unfold m_spillwaylaw21_do g_spillwaylaw21_do
  unfold doP at hk
  have hW := hI.w
  have hN := hI.nk
  have hM := hI.mon
  have ho := hI.out
  have hr := hI.rb
  have hnx := hI.next
  have hsm := hI.sum
  refine newK fun h1 c1 e1 z1 => ldIk c1 rfl ?_
  have hT1 := hT.ext e1
  have g1 := Go2.ofExt (T := T) (T2 := T2) e1
  have nT : T h.size = none := (hT.none_ (Nat.le_refl _)).1
  have nT2 : T2 h.size = none := (hT.none_ (Nat.le_refl _)).2
  have hb1 : Bytes h1 s d.b := Row.ext hb e1
  have bT : ∀ {h9 : Heap} {T9 : Nat → Option Nat}, Stp T T9 h1 h9 → Bytes h9 s d.b := fun {h9 T9} st => hb1.congr fun k o hp hne hl => st.upd.old k hl fun h9 => h9 (hbT (fun he => hne (by rw [he]; rfl)) k (by simp [Sl.blk, hp])).1
  refine bindB_intro ⟨fun q => ?_, fun q0 => bindB_intro ⟨fun q => ?_, fun q1 => bindB_intro ⟨fun q => ?_, fun q2 => bindB_intro ⟨fun q => ?_, fun q3 => bindB_intro ⟨fun q => ?_, fun q4 => bindB_intro ⟨fun q => ?_, fun q5 => bindB_intro ⟨fun q => ?_, fun q6 => bindB_intro ⟨fun q => ?_, fun q7 => ?_⟩⟩⟩⟩⟩⟩⟩⟩
  · have q : d.kind = 0 := by simpa [ddV] using q
    rw [if_pos q] at hk
    refine ldIk c1 rfl (ldIk c1 rfl (Tick_spec hT1.a hW fun h5 T5 hC5 st5 => ⟨⟨(cell_block (st5.keep nT c1)).trans rfl, trivial⟩, ?_⟩))
    obtain ⟨hT5, g5⟩ := hT1.left hC5 st5
    refine RTick_spec hT5.b hW hM fun h6 T6 hC6 st6 => bindB_intro ?_
    obtain ⟨hT6, g6⟩ := hT5.right hC6 st6.stp
    have hx := hk h6 _ _ hT6 (g1.trans (g5.trans g6))
    simpa using hx
  all_goals (have q0 : d.kind ≠ 0 := by simpa [ddV] using q0)
  all_goals rw [if_neg q0] at hk
  · have q : d.kind = 1 := by simpa [ddV] using q
    rw [if_pos q] at hk
    refine ldIk c1 rfl (ldIk c1 rfl (ldIk c1 rfl (ldIk c1 rfl (ldIk c1 rfl (ldSk c1 rfl (ldIk c1 rfl ?_))))))
    refine Ask_spec (r := d.r) hT1.a hW (by omega) (by omega) hrs fun h5 T5 hC5 st5 => bindI_intro (bindB_intro (bindI_intro ?_))
    have c5 := st5.keep nT c1
    obtain ⟨hT5, g5⟩ := hT1.left hC5 st5
    refine ldIk c5 rfl (ldIk c5 rfl (ldIk c5 rfl (ldIk c5 rfl (ldIk c5 rfl (ldSk c5 rfl (ldIk c5 rfl ?_))))))
    refine RAsk_spec (r := d.r) hT5.b hW hM (by omega) (by omega) fun h6 T6 hC6 st6 => bindI_intro (bindB_intro (bindI_intro ?_))
    obtain ⟨hT6, g6⟩ := hT5.right hC6 st6.stp
    have hx := hk h6 _ _ hT6 (g1.trans (g5.trans g6))
    refine iteP_pos (by simp) (iteP_pos (by simp) (bindB_intro ?_))
    simpa using hx
  all_goals (have q1 : d.kind ≠ 1 := by simpa [ddV] using q1)
  all_goals rw [if_neg q1] at hk
  · have q : d.kind = 2 := by simpa [ddV] using q
    rw [if_pos q] at hk
    refine ldIk c1 rfl (Dial_spec hT1.a hW fun h5 T5 hC5 st5 => bindB_intro (bindI_intro ?_))
    have c5 := st5.keep nT c1
    obtain ⟨hT5, g5⟩ := hT1.left hC5 st5
    refine ldIk c5 rfl (RDial_spec hT5.b hW hM fun h6 T6 hC6 st6 => bindB_intro (bindI_intro ?_))
    obtain ⟨hT6, g6⟩ := hT5.right hC6 st6.stp
    have hx := hk h6 _ _ hT6 (g1.trans (g5.trans g6))
    refine iteP_pos (by simp) (bindB_intro ?_)
    simpa using hx
  all_goals (have q2 : d.kind ≠ 2 := by simpa [ddV] using q2)
  all_goals rw [if_neg q2] at hk
  · have q : d.kind = 3 := by simpa [ddV] using q
    rw [if_pos q] at hk
    refine ldIk c1 rfl (ldIk c1 rfl (Up_spec hT1.a hW hN (by omega) fun h5 T5 hC5 st5 => ⟨⟨(cell_block (st5.keep nT c1)).trans rfl, trivial⟩, ?_⟩))
    obtain ⟨hT5, g5⟩ := hT1.left hC5 st5
    refine RUp_spec hT5.b hW hM (by omega) fun h6 T6 hC6 st6 => bindB_intro ?_
    obtain ⟨hT6, g6⟩ := hT5.right hC6 st6.stp
    have hx := hk h6 _ _ hT6 (g1.trans (g5.trans g6))
    simpa using hx
  all_goals (have q3 : d.kind ≠ 3 := by simpa [ddV] using q3)
  all_goals rw [if_neg q3] at hk
  · have q : d.kind = 4 := by simpa [ddV] using q
    rw [if_pos q] at hk
    refine ldIk c1 rfl (ldIk c1 rfl (Refused_spec hT1.a hW hN fun h5 T5 hC5 st5 => ⟨⟨(cell_block (st5.keep nT c1)).trans rfl, trivial⟩, ?_⟩))
    obtain ⟨hT5, g5⟩ := hT1.left hC5 st5
    refine RRefused_spec hT5.b hW hM hN fun h6 T6 hC6 st6 => bindB_intro ?_
    obtain ⟨hT6, g6⟩ := hT5.right hC6 st6.stp
    have hx := hk h6 _ _ hT6 (g1.trans (g5.trans g6))
    simpa using hx
  all_goals (have q4 : d.kind ≠ 4 := by simpa [ddV] using q4)
  all_goals rw [if_neg q4] at hk
  · have q : d.kind = 5 := by simpa [ddV] using q
    rw [if_pos q] at hk
    refine ldIk c1 rfl (ldIk c1 rfl (Lost_spec hT1.a hW hN fun h5 T5 hC5 st5 => ⟨⟨(cell_block (st5.keep nT c1)).trans rfl, trivial⟩, ?_⟩))
    obtain ⟨hT5, g5⟩ := hT1.left hC5 st5
    refine RLost_spec hT5.b hW hM hN fun h6 T6 hC6 st6 => bindB_intro ?_
    obtain ⟨hT6, g6⟩ := hT5.right hC6 st6.stp
    have hx := hk h6 _ _ hT6 (g1.trans (g5.trans g6))
    simpa using hx
  all_goals (have q5 : d.kind ≠ 5 := by simpa [ddV] using q5)
  all_goals rw [if_neg q5] at hk
  · have q : d.kind = 6 := by simpa [ddV] using q
    rw [if_pos q] at hk
    refine ldLk (s := s) c1 rfl (Hand_spec hb1 (by omega) fun t75 h76 hh76 e76 => ?_)
    have c76 := keepE c1 e76
    have hT76 := hT1.ext e76
    have g76 := g1.trans (Go2.ofExt e76)
    have s1 := e1.size
    have s76 := e76.size
    have tlow : ∀ k, t75.blk = some k → h1.size ≤ k ∧ k < h76.size := fun k hk => hh76.lt hk
    have tT : ∀ k, t75.blk = some k → T k = none ∧ T2 k = none := fun k hk => hT.none_ (by have := tlow k hk; omega)
    refine ldIk c76 rfl (ldIk c76 rfl (ldLk (s := s) c76 rfl ?_))
    refine Bytes_spec hT76.a hW hN hI.br hh76.bytes (fun _ k hk => (tT k hk).1) (by omega) fun h81 T81 hC81 st81 => ?_
    have c81 := st81.keep nT c76
    obtain ⟨hT81, g81⟩ := hT76.left hC81 st81
    refine ⟨⟨(cell_block c81).trans rfl, trivial⟩, ⟨(cell_block c81).trans rfl, trivial⟩, ?_⟩
    have hb81 : Bytes h81 s d.b := (Row.ext hb1 e76).congr fun k o hp hne hl => st81.upd.old k hl fun h9 => h9 (hbT (fun he => hne (by rw [he]; rfl)) k (by simp [Sl.blk, hp])).1
    refine RBytes_spec hT81.b hW hM hN hI.br hb81 (fun hne k hk => (hbT hne k hk).2) (by omega) fun h83 T83 hC83 st83 => iteP_neg (by simp) ?_
    have c83 := st83.stp.keep nT2 c81
    obtain ⟨hT83, g83⟩ := hT81.right hC83 st83.stp
    have hb83 : Bytes h83 s d.b := hb81.congr fun k o hp hne hl => st83.upd.old k hl fun h9 => h9.1 (hbT (fun he => hne (by rw [he]; rfl)) k (by simp [Sl.blk, hp])).2
    have hh81 : Handed h81 h1.size t75 d.b := hh76.congr fun k hk hl => st81.upd.old k hl fun h9 => h9 (tT k hk).1
    have hh83 : Handed h83 h1.size t75 d.b := hh81.congr fun k hk hl => st83.upd.old k hl fun h9 => h9.1 (tT k hk).2
    refine ldLk (s := s) c83 rfl (Kept_spec hh83 hb83 (by omega) (iteP_false (nines hh83 fun h9 u9 z9 => ?_)))
    have gAll := (g76.trans g81).trans g83
    have nAll : ∀ k, t75.blk = some k → T81 k = none ∧ T83 k = none := fun k hk => (g81.trans g83).none_ (tT k hk).1 (tT k hk).2 (tlow k hk).2
    exact hk h9 T81 T83 (hT83.upd u9 fun k _ hk => nAll k hk) (gAll.also u9 fun k hk => by have := tlow k hk; omega)
  all_goals (have q6 : d.kind ≠ 6 := by simpa [ddV] using q6)
  all_goals rw [if_neg q6] at hk
  · have q : d.kind = 7 := by simpa [ddV] using q
    rw [if_pos q] at hk
    refine Send_tag hT1.a fun t94 h95 T95 ho95 tag95 hC95 st95 => ?_
    obtain ⟨hT95, g95⟩ := hT1.left hC95 st95
    refine RSend_spec hT95.b fun t96 h97 T97 ho97 hC97 st97 => ?_
    obtain ⟨hT97, g97⟩ := hT95.right hC97 st97.stp
    have ho95' : Own h97 0 t94 1 (c.out.map bv) := ho95.congr fun k hk hl _ => st97.upd.old k hl fun h9 => h9.1 (hT1.d k (by rw [tag95 k hk]; simp))
    refine Same_spec ho95'.row ho97.row (bindB_intro ?_)
    rw [decide_eq_true rfl]
    exact hk h97 _ _ hT97 (g1.trans (g95.trans g97))
  all_goals (have q7 : d.kind ≠ 7 := by simpa [ddV] using q7)
  all_goals rw [if_neg q7] at hk
  refine Told_spec hT1.a fun t101 h102 T102 ho102 tag102 hC102 st102 => ?_
  obtain ⟨hT102, g102⟩ := hT1.left hC102 st102
  refine told_conv ho102 (by omega) fun t103 h104 ho104 e104 => ?_
  have hT104 := hT102.ext e104
  refine RTold_spec hT104.b fun t105 h106 T106 ho106 hC106 st106 => ?_
  obtain ⟨hT106, g106⟩ := hT104.right hC106 st106.stp
  have ho104' : Own h106 h102.size t103 7 (c.told.flatMap tC) := ho104.congr fun k hk hl _ => st106.upd.old k hl fun h9 => h9.1 (hT102.none_ (ho104.lt hk).1).2
  refine RSame_spec ho104' ho106 (bindB_intro ?_)
  exact hk h106 _ _ hT106 (((g1.trans g102).trans (Go2.ofExt e104)).trans g106)

end Go.Proofs.YtcmedplogmjiiaaGreat
