/- What a client keeps. (gathered by carve.py out of texts proved for other seats) -/
import Derived.Test.YtbofhmcjcllcaaaClH
import Derived.KernelRfl
namespace Go.Proofs.Ytbofhmcjcllcaaa
open Go Go.Fw

def Mon (l : List (Int × Int)) : Prop := l.Pairwise (fun a b => a.2 ≤ b.2)

def xT : ByteArray := ByteArray.mk #[120]

theorem right_x : rightB (helloR xT) = true := by decide

theorem WOK.new {tmo least most : Int} {name : ByteArray} : WOK (newCl tmo least most name) :=
  ⟨List.Pairwise.nil, (fun p hp => (by cases hp)), (fun p hp => (by cases hp)), (by show (0 : Int) ≤ 0 ∧ (0 : Int) ≤ 1152921504606846976; omega), (by show (1 : Int) ≤ 1 ∧ (1 : Int) ≤ 4611686018427387904; omega), (by show 0 + 0 ≤ 1073741824; omega)⟩

theorem new_ok {tmo least most : Int} {name : ByteArray} (h : newE_ tmo least most name = 0) : (1 ≤ tmo ∧ tmo ≤ 60000000 ∧ 1 ≤ least ∧ least ≤ most ∧ most ≤ 3600000000) ∧ rightB (helloR name) = true := by
  unfold newE_ at h
  split at h
  · cases h
  · split at h
    · cases h
    · split at h
      · cases h
      · split at h
        · cases h
        · split at h
          · cases h
          · split at h
            · rename_i hr
              exact ⟨by omega, hr⟩
            · cases h

theorem NOK.new {tmo least most : Int} {name : ByteArray} (h : newE_ tmo least most name = 0) : NOK (newCl tmo least most name) := by
  obtain ⟨hb, hr⟩ := new_ok h
  refine ⟨⟨hb.1, hb.2.1⟩, hb.2.2.1, ⟨Int.le_refl _, hb.2.2.2.1⟩, hb.2.2.2.2, right_text hr⟩

theorem WOK.noup {c : Cl} (hW : WOK c) {u : Bool} {b d : Int} {o : List UInt8} : WOK { c with up := u, backoff := b, out := o, dial := d } := ⟨hW.asc, hW.ids, hW.ats, hW.last, hW.next, hW.sum⟩

theorem WOK.up {c : Cl} (hW : WOK c) (at_ : Int) : WOK (c.upS at_) := by
  unfold Cl.upS
  split
  · rename_i he
    split
    · exact hW.tick he
    · exact ⟨(hW.tick he).asc, (hW.tick he).ids, (hW.tick he).ats, (hW.tick he).last, (hW.tick he).next, (hW.tick he).sum⟩
  · exact hW

theorem WOK.ref {c : Cl} (hW : WOK c) (at_ : Int) : WOK (c.refS at_) := by
  unfold Cl.refS
  split
  · rename_i he
    split
    · exact hW.tick he
    · exact ⟨(hW.tick he).asc, (hW.tick he).ids, (hW.tick he).ats, (hW.tick he).last, (hW.tick he).next, (hW.tick he).sum⟩
  · exact hW

theorem WOK.atS {c : Cl} (hW : WOK c) (at_ : Int) : WOK (c.atS at_) := by
  unfold Cl.atS
  split
  · rename_i he
    exact hW.tick he
  · exact hW

theorem asc_snoc {l : List (Int × Int)} (ha : Asc l) {n v : Int} (hn : ∀ p, p ∈ l → p.1 < n) : Asc (l ++ [(n, v)]) := by
  refine List.pairwise_append.2 ⟨ha, List.pairwise_singleton _ _, fun a ha b hb => ?_⟩
  have : b = (n, v) := List.mem_singleton.1 hb
  subst this
  exact hn a ha

theorem WOK.ask {c : Cl} (hW : WOK c) (hnx : c.next < 4611686018427387904) (hsum : c.told.length + c.waits.length < 1073741824) (at_ : Int) (r : Rq) : WOK (c.askR at_ r).2 := by
  unfold Cl.askR
  split
  · rename_i he
    have ht := hW.tick he
    have hz := atE_zero he
    split
    · split
      · have hs : (c.tick at_).told.length + (c.tick at_).waits.length < 1073741824 := by
          show (c.told ++ List.map _ _).length + (List.filter _ c.waits).length < _
          rw [List.length_append, List.length_map]
          have h1 := List.length_eq_countP_add_countP (p := keepW c.tmo at_) (l := c.waits)
          rw [List.countP_eq_length_filter, List.countP_eq_length_filter] at h1
          have h3 : (List.filter (fun a => decide ¬keepW c.tmo at_ a = true) c.waits) = c.waits.filter fun p => !keepW c.tmo at_ p := by
            congr 1; funext a; cases keepW c.tmo at_ a <;> rfl
          rw [h3] at h1
          omega
        refine ⟨asc_snoc ht.asc fun p hp => (ht.ids p hp).2, fun p hp => ?_, fun p hp => ?_, ht.last, ?_, ?_⟩
        · rcases List.mem_append.1 hp with h9 | h9
          · have := ht.ids p h9
            have hn : (c.tick at_).next = c.next := rfl
            show 1 ≤ p.1 ∧ p.1 < c.next + 1
            omega
          · have : p = (c.next, at_) := List.mem_singleton.1 h9
            subst this
            have := hW.next
            show 1 ≤ c.next ∧ c.next < c.next + 1
            omega
        · rcases List.mem_append.1 hp with h9 | h9
          · exact ht.ats p h9
          · have : p = (c.next, at_) := List.mem_singleton.1 h9
            subst this
            show 0 ≤ at_ ∧ at_ ≤ at_
            omega
        · have := hW.next
          show 1 ≤ c.next + 1 ∧ c.next + 1 ≤ _
          omega
        · show (c.tick at_).told.length + ((c.tick at_).waits ++ [(c.next, at_)]).length ≤ _
          rw [List.length_append]
          show _ + (_ + 1) ≤ _
          omega
      · exact ht
    · exact ht
  · exact hW

theorem tld_idx {h : Heap} {base : Nat} {s : Sl} {l : List Tld} (ho : Own h base s 7 (l.flatMap tC)) {n : Nat} {p : Tld} (hp : l[n]? = some p) {k : Int} (hi : k = (n : Int)) {K : Nat → Nat → Prop}
    (hk : ∀ b o, h.has b o (tC p) → K b o) : idxA s.ptr s.len k 7 K := by
  subst hi
  have hl := ho.len
  rw [flat_len tC_len] at hl
  have hlt : n < l.length := (List.getElem?_eq_some_iff.1 hp).1
  obtain ⟨b, hptr, hb⟩ := Own.ptr_ ho (o := 0) (by rw [flat_len tC_len]; omega)
  refine ⟨b, 0, hptr, by omega, by omega, ?_⟩
  have e : 0 + (n : Int).toNat * 7 = n * 7 := by omega
  rw [e]
  refine hk b _ (has_of fun i v hi => Own.cell_ ho hb ?_)
  have hi7 : i < 7 := (List.getElem?_eq_some_iff.1 hi).1
  rw [flat_get tC_len l n i p hp hi7]
  exact hi

def askQ : Rq := (0, 1, 1, 1, ByteArray.mk #[], 0, ())

theorem right_ask : rightB (setId askQ 0) = true := by decide

theorem at_none {thenM : (Int → Heap → Prop) → Heap → Prop} {at_ : Int} {K : Int → Heap → Prop} {h : Heap} (hk : K 1 h) : g_client_Client_at__client_Client_Tick_1 m_client_Client_Waiting m_client_Client_fall thenM none at_ K h :=
  bindI_intro (bindB_intro (iteP_true (bindI_intro hk)))

theorem Up_none {h : Heap} {at_ : Int} {K : Int → Heap → Prop} (hk : ∀ h', Ext h h' → K 1 h') : m_client_Client_Up none at_ K h := by
  unfold m_client_Client_Up g_client_Client_Up
  refine newK fun h1 c1 e1 z1 => bindI_intro (ldPk c1 rfl ?_)
  rw [at_up]
  exact at_none (bindI_intro (hk h1 e1))

theorem Bytes_none {h : Heap} {at_ : Int} {b : Sl} {K : Int → Heap → Prop} (hk : ∀ h', Ext h h' → K 1 h') : m_client_Client_Bytes none at_ b K h := by
  unfold m_client_Client_Bytes g_client_Client_Bytes
  refine newK fun h1 c1 e1 z1 => newK fun h2 c2 e2 z2 => bindI_intro (ldPk (keepE c1 e2) rfl ?_)
  rw [at_bytes]
  exact at_none (bindI_intro (hk h2 (e1.trans e2)))

theorem Ask_none {h : Heap} {at_ : Int} {r : Rq} {K : Int → Bool → Int → Heap → Prop} (hk : ∀ h', Ext h h' → K 0 false 1 h') : m_client_Client_Ask none at_ r K h := by
  unfold m_client_Client_Ask g_client_Client_Ask
  refine newK fun h1 c1 e1 z1 => newK fun h3 c3 e3 z3 => newK fun h5 c5 e5 z5 => newK fun h7 c7 e7 z7 => newK fun h9 c9 e9 z9 => bindI_intro ?_
  have d1 := keepE (keepE (keepE (keepE c1 e3) e5) e7) e9
  have d3 := keepE (keepE (keepE c3 e5) e7) e9
  have d7 := keepE c7 e9
  refine ldPk d1 rfl (ldIk d3 rfl ?_)
  rw [at_ask]
  refine at_none (bindI_intro (ldIk d7 rfl (ldBk c9 rfl (put2 d7 (show 0 < 1 by decide) rfl fun h16 r16 u16 z16 => ?_))))
  have q9 := keepB c9 u16 (by omega)
  refine ⟨⟨(cell_block q9).trans rfl, trivial⟩, put2 q9 (show 0 < 1 by decide) rfl fun h17 r17 u17 z17 => bindI_intro (ldIk (keepB r16 u17 (by omega)) rfl (ldBk r17 rfl (hk h17 ?_)))⟩
  exact (((((e1.trans e3).trans e5).trans e7).trans e9).then u16 fun k hk => by omega).then u17 fun k hk => by omega

def toldB (l : List Tld) (p : Int × Int) : Bool := l.any fun t => t.id == p.1

structure Rel (A : List (Int × Int)) (c : Cl) : Prop where
  asc : Asc A
  rest : A.filter (fun p => !toldB c.told p) = c.waits
  nodup : (c.told.map (·.id)).Nodup
  each : ∀ t, t ∈ c.told → ∃ p, p ∈ A ∧ p.1 = t.id ∧ (t.fb = false → c.last - p.2 < c.tmo)

def Fresh (c : Cl) : Prop := ∀ p, p ∈ c.waits → c.last - p.2 < c.tmo

theorem Rel.congr {A : List (Int × Int)} {c c' : Cl} (hr : Rel A c) (h1 : c'.told = c.told) (h2 : c'.waits = c.waits) (h3 : c'.last = c.last) (h4 : c'.tmo = c.tmo) : Rel A c' :=
  ⟨hr.asc, by rw [h1, h2]; exact hr.rest, by rw [h1]; exact hr.nodup, by rw [h1, h3, h4]; exact hr.each⟩

theorem Fresh.congr {c c' : Cl} (hf : Fresh c) (h2 : c'.waits = c.waits) (h3 : c'.last = c.last) (h4 : c'.tmo = c.tmo) : Fresh c' := by
  unfold Fresh
  rw [h2, h3, h4]
  exact hf

theorem Rel.init {c : Cl} (ha : Asc c.waits) (ht : c.told = []) : Rel c.waits c :=
  ⟨ha, by rw [ht]; exact List.filter_eq_self.2 fun _ _ => rfl, by rw [ht]; exact List.nodup_nil, by rw [ht]; intro t h; cases h⟩

theorem toldB_snoc (l : List Tld) (t : Tld) (p : Int × Int) : toldB (l ++ [t]) p = (toldB l p || t.id == p.1) := by simp [toldB, List.any_append]

theorem Rel.mem {A : List (Int × Int)} {c : Cl} (hr : Rel A c) {p : Int × Int} (hp : p ∈ c.waits) : p ∈ A ∧ toldB c.told p = false := by
  rw [← hr.rest] at hp
  obtain ⟨h1, h2⟩ := List.mem_filter.1 hp
  exact ⟨h1, by simpa using h2⟩

theorem Rel.move {A : List (Int × Int)} {c : Cl} (hr : Rel A c) {p : Int × Int} (hp : p ∈ c.waits) {t : Tld} (ht : t.id = p.1) (hf : t.fb = false → c.last - p.2 < c.tmo) : Rel A { c with waits := c.waits.filter (fun q => q.1 != p.1), told := c.told ++ [t] } := by
  obtain ⟨hA, hn⟩ := hr.mem hp
  refine ⟨hr.asc, ?_, ?_, fun u hu => ?_⟩
  · dsimp only
    rw [← hr.rest, List.filter_filter]
    refine List.filter_congr fun q _ => ?_
    rw [toldB_snoc, ht]
    cases toldB c.told q
    · by_cases hq : q.1 = p.1
      · simp [hq]
      · have h1 : (q.1 != p.1) = true := by simpa using hq
        have h2 : (p.1 == q.1) = false := by simpa using fun h => hq h.symm
        rw [h1, h2]; rfl
    · simp
  · dsimp only
    rw [List.map_append, List.nodup_append]
    refine ⟨hr.nodup, by simp, fun a ha b hb => ?_⟩
    have hb' : b = p.1 := by simpa [ht] using hb
    subst hb'
    obtain ⟨u, hu, rfl⟩ := List.mem_map.1 ha
    intro he
    unfold toldB at hn
    rw [List.any_eq_false] at hn
    exact hn u hu (by simpa using he)
  · rcases List.mem_append.1 hu with h9 | h9
    · exact hr.each u h9
    · have : u = t := List.mem_singleton.1 h9
      subst this
      exact ⟨p, hA, ht.symm, hf⟩

theorem Rel.tick {c : Cl} (ha : Asc c.waits) (ht : c.told = []) (at_ : Int) : Rel c.waits (c.tick at_) := by
  have hb : ∀ p, p ∈ c.waits → toldB (c.tick at_).told p = !keepW c.tmo at_ p := fun p hp => by
    unfold toldB Cl.tick
    rw [ht, List.nil_append]
    cases hk : keepW c.tmo at_ p with
    | false =>
      refine List.any_eq_true.2 ⟨fallT p.1, List.mem_map.2 ⟨p, List.mem_filter.2 ⟨hp, by rw [hk]; rfl⟩, rfl⟩, by simp [fallT]⟩
    | true =>
      rw [Bool.not_true]
      refine List.any_eq_false.2 fun t hT => ?_
      obtain ⟨q, hq, rfl⟩ := List.mem_map.1 hT
      obtain ⟨hq1, hq2⟩ := List.mem_filter.1 hq
      intro he
      have he : q.1 = p.1 := by simpa [fallT] using he
      obtain ⟨i, hi⟩ := List.getElem?_of_mem hp
      obtain ⟨j, hj⟩ := List.getElem?_of_mem hq1
      have := asc_inj ha hj hi he
      subst this
      rw [hi] at hj
      cases hj
      rw [hk] at hq2
      cases hq2
  refine ⟨ha, ?_, ?_, fun t hT => ?_⟩
  · show _ = c.waits.filter (keepW c.tmo at_)
    refine List.filter_congr fun p hp => ?_
    rw [hb p hp, Bool.not_not]
  · show ((c.told ++ List.map _ _).map _).Nodup
    rw [ht, List.nil_append, List.map_map]
    have : (List.filter (fun p => !keepW c.tmo at_ p) c.waits).Pairwise (fun a b => a.1 < b.1) := asc_filter ha _
    refine List.pairwise_map.2 (this.imp fun hab he => ?_)
    simp only [Function.comp_apply, fallT] at he
    omega
  · have hT : t ∈ c.told ++ (c.waits.filter fun p => !keepW c.tmo at_ p).map fun p => fallT p.1 := hT
    rw [ht, List.nil_append] at hT
    obtain ⟨q, hq, rfl⟩ := List.mem_map.1 hT
    exact ⟨q, (List.mem_filter.1 hq).1, rfl, fun h => by cases h⟩

theorem Fresh.tick (c : Cl) (at_ : Int) : Fresh (c.tick at_) := fun p hp => by
  have h := (List.mem_filter.1 hp).2
  unfold keepW at h
  exact of_decide_eq_true h

theorem Rel.downs {A : List (Int × Int)} {c : Cl} (hr : Rel A c) (ha : Asc c.waits) : Rel A c.down := by
  have hb : ∀ p, p ∈ A → toldB (c.told ++ c.waits.map fun p => fallT p.1) p = true := fun p hp => by
    unfold toldB
    rw [List.any_append]
    cases ht : c.told.any fun t => t.id == p.1 with
    | true => rfl
    | false =>
      have : p ∈ c.waits := by
        rw [← hr.rest]
        exact List.mem_filter.2 ⟨hp, by unfold toldB; rw [ht]; rfl⟩
      rw [Bool.false_or]
      exact List.any_eq_true.2 ⟨fallT p.1, List.mem_map.2 ⟨p, this, rfl⟩, by simp [fallT]⟩
  refine ⟨hr.asc, ?_, ?_, fun t hT => ?_⟩
  · show A.filter _ = []
    refine List.filter_eq_nil_iff.2 fun p hp => ?_
    have := hb p hp
    show ¬ (!toldB (c.told ++ _) p) = true
    rw [this]
    simp
  · show ((c.told ++ List.map _ _).map _).Nodup
    rw [List.map_append, List.nodup_append]
    refine ⟨hr.nodup, ?_, fun a h1 b h2 => ?_⟩
    · rw [List.map_map]
      refine List.pairwise_map.2 (List.Pairwise.imp (fun hab he => ?_) ha)
      simp only [Function.comp_apply, fallT] at he
      omega
    · rw [List.map_map] at h2
      obtain ⟨q, hq, rfl⟩ := List.mem_map.1 h2
      obtain ⟨u, hu, rfl⟩ := List.mem_map.1 h1
      have hn := (hr.mem hq).2
      unfold toldB at hn
      rw [List.any_eq_false] at hn
      intro he
      exact hn u hu (by simpa [fallT] using he)
  · rcases List.mem_append.1 (show t ∈ c.told ++ c.waits.map (fun p => fallT p.1) from hT) with h9 | h9
    · exact hr.each t h9
    · obtain ⟨q, hq, rfl⟩ := List.mem_map.1 h9
      exact ⟨q, (hr.mem hq).1, rfl, fun h => by cases h⟩

theorem Rel.answ {A : List (Int × Int)} {c : Cl} (hr : Rel A c) (hf : Fresh c) (a : An) : Rel A (c.answ a) ∧ Fresh (c.answ a) := by
  unfold Cl.answ
  split
  · rename_i hany
    obtain ⟨p, hp, hpe⟩ := List.any_eq_true.1 hany
    have hpe : p.1 = a.1 := by simpa using hpe
    refine ⟨?_, fun q hq => hf q (List.mem_filter.1 hq).1⟩
    have := hr.move hp (t := ⟨a.1, a, false⟩) hpe.symm fun _ => hf p hp
    rw [hpe] at this
    exact this
  · exact ⟨hr, hf⟩

theorem Rel.take {A : List (Int × Int)} : ∀ {l : List (List UInt8)} {c : Cl}, Rel A c → Fresh c → Rel A (c.take l).1 ∧ Fresh (c.take l).1
  | [], c, h, hf => ⟨h, hf⟩
  | p :: ps, c, h, hf => by
    unfold Cl.take
    split
    · exact ⟨h, hf⟩
    · have := h.answ hf (readA p).1
      exact Rel.take this.1 this.2

theorem take_same : ∀ (l : List (List UInt8)) (c : Cl), (c.take l).1.last = c.last ∧ (c.take l).1.tmo = c.tmo ∧ (c.take l).1.next = c.next ∧ (c.take l).1.out = c.out ∧ (c.take l).1.rb = c.rb ∧ (c.take l).1.broken = c.broken ∧ (c.take l).1.told.length + (c.take l).1.waits.length ≤ c.told.length + c.waits.length
  | [], c => ⟨rfl, rfl, rfl, rfl, rfl, rfl, Nat.le_refl _⟩
  | p :: ps, c => by
    unfold Cl.take
    split
    · exact ⟨rfl, rfl, rfl, rfl, rfl, rfl, Nat.le_refl _⟩
    · obtain ⟨a1, a2, a3, a4, a5, a6, a7⟩ := take_same ps (c.answ (readA p).1)
      have hb : (c.answ (readA p).1).last = c.last ∧ (c.answ (readA p).1).tmo = c.tmo ∧ (c.answ (readA p).1).next = c.next ∧ (c.answ (readA p).1).out = c.out ∧ (c.answ (readA p).1).rb = c.rb ∧ (c.answ (readA p).1).broken = c.broken ∧ (c.answ (readA p).1).told.length + (c.answ (readA p).1).waits.length ≤ c.told.length + c.waits.length := by
        unfold Cl.answ
        split
        · rename_i hany
          obtain ⟨q, hq, hqe⟩ := List.any_eq_true.1 hany
          refine ⟨rfl, rfl, rfl, rfl, rfl, rfl, ?_⟩
          have : (c.waits.filter (fun p' => p'.1 != (readA p).1.1)).length < c.waits.length := by
            refine List.length_filter_lt_length_iff_exists.2 ⟨q, hq, ?_⟩
            simp at hqe
            simp [hqe]
          show (c.told ++ [_]).length + (c.waits.filter _).length ≤ _
          rw [List.length_append]
          simp only [List.length_cons, List.length_nil]
          omega
        · exact ⟨rfl, rfl, rfl, rfl, rfl, rfl, Nat.le_refl _⟩
      refine ⟨a1.trans hb.1, a2.trans hb.2.1, a3.trans hb.2.2.1, a4.trans hb.2.2.2.1, a5.trans hb.2.2.2.2.1, a6.trans hb.2.2.2.2.2.1, Nat.le_trans a7 hb.2.2.2.2.2.2⟩

theorem cutA_len : ∀ (n : Nat) (all : List UInt8), all.length ≤ n → (cutA all).2.2.length ≤ all.length
  | 0, all, h => by
    rw [cutA_short (by omega)]
    exact Nat.le_refl _
  | n + 1, all, h => by
    by_cases h1 : all.length < 4
    · rw [cutA_short h1]; exact Nat.le_refl _
    · cases h2 : lenok all with
      | false => rw [cutA_bad h1 h2]; exact Nat.zero_le _
      | true =>
        by_cases h3 : all.length - 4 < lenv all
        · rw [cutA_wait h1 h2 h3]; exact Nat.le_refl _
        · rw [cutA_one h1 h2 h3]
          have := cutA_len n (all.drop (4 + lenv all)) (by rw [List.length_drop]; omega)
          rw [List.length_drop] at this
          show (cutA _).2.2.length ≤ _
          omega

structure OnI (c : Cl) (tmo : Int) (n : Nat) : Prop where
  w : WOK c
  nk : NOK c
  br : c.broken = false
  next : c.next ≤ (n : Int) + 1
  out : c.out.length ≤ 1024 * n
  rb : c.rb.length ≤ 1048576 * n
  sum : c.told.length + c.waits.length ≤ n
  fresh : Fresh c
  tmo : c.tmo = tmo

theorem OnI.mono {c : Cl} {tmo : Int} {n n' : Nat} (h : OnI c tmo n) (hn : n ≤ n') : OnI c tmo n' :=
  ⟨h.w, h.nk, h.br, by have := h.next; omega, by have := h.out; omega, by have := h.rb; omega, by have := h.sum; omega, h.fresh, h.tmo⟩

theorem tick_sum (c : Cl) (at_ : Int) : (c.tick at_).told.length + (c.tick at_).waits.length = c.told.length + c.waits.length := by
  show (c.told ++ List.map _ _).length + (List.filter _ c.waits).length = _
  rw [List.length_append, List.length_map]
  have h1 := List.length_eq_countP_add_countP (p := keepW c.tmo at_) (l := c.waits)
  rw [List.countP_eq_length_filter, List.countP_eq_length_filter] at h1
  have h3 : (List.filter (fun a => decide ¬keepW c.tmo at_ a = true) c.waits) = c.waits.filter fun p => !keepW c.tmo at_ p := by
    congr 1; funext a; cases keepW c.tmo at_ a <;> rfl
  rw [h3] at h1
  omega

theorem OnI.tick {c : Cl} {tmo : Int} {n : Nat} (h : OnI c tmo n) {at_ : Int} (he : c.atE at_ = 0) : OnI (c.tick at_) tmo n :=
  ⟨h.w.tick he, h.nk.tick at_, h.br, h.next, h.out, h.rb, by rw [tick_sum]; exact h.sum, Fresh.tick c at_, h.tmo⟩

theorem WOK.down {c : Cl} (hW : WOK c) : WOK c.down := by
  refine ⟨List.Pairwise.nil, (fun p hp => (by cases hp)), (fun p hp => (by cases hp)), hW.last, hW.next, ?_⟩
  have := hW.sum
  show (c.told ++ List.map _ _).length + 0 ≤ _
  rw [List.length_append, List.length_map]
  omega

theorem NOK.down {c : Cl} (hN : NOK c) : NOK c.down := by
  have := hN.back
  have := hN.least
  refine ⟨hN.tmo, hN.least, ?_, hN.most, hN.name⟩
  show c.least ≤ min (2 * c.backoff) c.most ∧ min (2 * c.backoff) c.most ≤ c.most
  omega

theorem OnI.down {c : Cl} {tmo : Int} {n : Nat} (hw : WOK c) (hn : NOK c) (h1 : c.next ≤ (n : Int) + 1) (h2 : c.told.length + c.waits.length ≤ n) (h3 : c.tmo = tmo) : OnI c.down tmo n := by
  refine ⟨hw.down, hn.down, rfl, h1, Nat.zero_le _, Nat.zero_le _, ?_, (fun p hp => (by cases hp)), h3⟩
  show (c.told ++ List.map _ _).length + 0 ≤ _
  rw [List.length_append, List.length_map]
  omega

def nowF (last k at_ : Int) : Int := if 0 ≤ k ∧ k ≤ 6 ∧ last ≤ at_ ∧ at_ ≤ 1152921504606846976 then at_ else last

theorem now_go {c : Cl} {k at_ : Int} (h : c.atE at_ = 0) (h0 : 0 ≤ k) (h6 : k ≤ 6) : at_ = nowF c.last k at_ := by
  have := atE_zero h
  unfold nowF
  rw [if_pos ⟨h0, h6, this.2.2, this.2.1⟩]

theorem now_stay {c : Cl} {k at_ : Int} (hW : WOK c) (h : c.atE at_ ≠ 0) : c.last = nowF c.last k at_ := by
  unfold nowF
  rw [if_neg fun hh => ?_]
  refine h ?_
  have := hW.last
  unfold Cl.atE
  rw [if_neg (by omega), if_neg (by omega), if_neg (by omega)]

/-- what a deed leaves: all that was asked is there -/
structure Did (A : List (Int × Int)) (c c' : Cl) (tmo : Int) (n : Nat) (k at_ : Int) : Prop where
  on : OnI c' tmo (n + 1)
  rel : Rel A c'
  last : c'.last = nowF c.last k at_

theorem Did.stay {c : Cl} {tmo : Int} {n : Nat} {k at_ : Int} (hI : OnI c tmo n) (ht : c.told = []) (h : c.last = nowF c.last k at_) : Did c.waits c c tmo n k at_ := ⟨hI.mono (Nat.le_succ n), Rel.init hI.w.asc ht, h⟩

theorem Did.ticked {c : Cl} {tmo : Int} {n : Nat} {k at_ : Int} (hI : OnI c tmo n) (ht : c.told = []) (he : c.atE at_ = 0) (h0 : 0 ≤ k) (h6 : k ≤ 6) : Did c.waits c (c.tick at_) tmo n k at_ :=
  ⟨(hI.tick he).mono (Nat.le_succ n), Rel.tick hI.w.asc ht at_, now_go he h0 h6⟩

theorem Did.atS {c : Cl} {tmo : Int} {n : Nat} {k at_ : Int} (hI : OnI c tmo n) (ht : c.told = []) (h0 : 0 ≤ k) (h6 : k ≤ 6) : Did c.waits c (c.atS at_) tmo n k at_ := by
  unfold Cl.atS
  split
  · rename_i he
    exact Did.ticked hI ht he h0 h6
  · rename_i he
    exact Did.stay hI ht (now_stay hI.w he)

theorem Did.upS {c : Cl} {tmo : Int} {n : Nat} {k at_ : Int} (hI : OnI c tmo n) (ht : c.told = []) (h0 : 0 ≤ k) (h6 : k ≤ 6) : Did c.waits c (c.upS at_) tmo n k at_ := by
  unfold Cl.upS
  split
  · rename_i he
    have hD := Did.ticked (k := k) hI ht he h0 h6
    split
    · exact hD
    · have h1 := hI.nk.least
      have h2 := hI.nk.back
      have h3 := hI.out
      have h4 := allB_len (helloR c.name)
      refine ⟨⟨(hI.w.tick he).noup (d := c.dial), ⟨hI.nk.tmo, h1, ⟨Int.le_refl _, Int.le_trans h2.1 h2.2⟩, hI.nk.most, hI.nk.name⟩, hI.br, hD.on.next, ?_, hD.on.rb, hD.on.sum, hD.on.fresh.congr rfl rfl rfl, hI.tmo⟩, hD.rel.congr rfl rfl rfl rfl, hD.last⟩
      show (c.out ++ _).length ≤ _
      rw [List.length_append]
      omega
  · rename_i he
    exact Did.stay hI ht (now_stay hI.w he)

theorem Did.refS {c : Cl} {tmo : Int} {n : Nat} {k at_ : Int} (hI : OnI c tmo n) (ht : c.told = []) (h0 : 0 ≤ k) (h6 : k ≤ 6) : Did c.waits c (c.refS at_) tmo n k at_ := by
  unfold Cl.refS
  split
  · rename_i he
    have hD := Did.ticked (k := k) hI ht he h0 h6
    split
    · exact hD
    · exact ⟨⟨(hI.w.tick he).noup (u := c.up) (o := c.out), (hI.nk.tick at_).failed, hI.br, hD.on.next, hD.on.out, hD.on.rb, hD.on.sum, hD.on.fresh.congr rfl rfl rfl, hI.tmo⟩, hD.rel.congr rfl rfl rfl rfl, hD.last⟩
  · rename_i he
    exact Did.stay hI ht (now_stay hI.w he)

theorem Did.lostS {c : Cl} {tmo : Int} {n : Nat} {k at_ : Int} (hI : OnI c tmo n) (ht : c.told = []) (h0 : 0 ≤ k) (h6 : k ≤ 6) : Did c.waits c (c.lostS at_) tmo n k at_ := by
  unfold Cl.lostS
  split
  · rename_i he
    have hD := Did.ticked (k := k) hI ht he h0 h6
    split
    · exact ⟨OnI.down hD.on.w hD.on.nk hD.on.next hD.on.sum hD.on.tmo, hD.rel.downs hD.on.w.asc, hD.last⟩
    · exact hD
  · rename_i he
    exact Did.stay hI ht (now_stay hI.w he)

theorem Did.bytes {c : Cl} {tmo : Int} {n : Nat} {k at_ : Int} {l : List UInt8} (hl : l.length ≤ 1048576) (hI : OnI c tmo n) (ht : c.told = []) (h0 : 0 ≤ k) (h6 : k ≤ 6) : Did c.waits c (c.bytesR at_ l).1 tmo n k at_ := by
  unfold Cl.bytesR
  split
  · rename_i he
    have hD := Did.ticked (k := k) hI ht he h0 h6
    split
    · show Did _ _ ((c.tick at_).putB l).1 _ _ _ _
      unfold Cl.putB
      dsimp only
      have hq : putS (c.tick at_).rb (c.tick at_).broken l = cutA (c.rb ++ l) := by
        show putS c.rb c.broken l = _
        unfold putS
        rw [hI.br]
        rfl
      rw [hq]
      have hlen := cutA_len (c.rb ++ l).length (c.rb ++ l) (Nat.le_refl _)
      generalize cutA (c.rb ++ l) = q at hlen
      have hrb := hI.rb
      rw [List.length_append] at hlen
      have r2 : Rel c.waits { c.tick at_ with rb := q.2.2, broken := q.2.1 } := hD.rel.congr rfl rfl rfl rfl
      have f2 : Fresh { c.tick at_ with rb := q.2.2, broken := q.2.1 } := hD.on.fresh.congr rfl rfl rfl
      have w2 : WOK { c.tick at_ with rb := q.2.2, broken := q.2.1 } := hD.on.w.rbs
      have n2 : NOK { c.tick at_ with rb := q.2.2, broken := q.2.1 } := hD.on.nk.rbs
      have hsm : ({ c.tick at_ with rb := q.2.2, broken := q.2.1 } : Cl).told.length + ({ c.tick at_ with rb := q.2.2, broken := q.2.1 } : Cl).waits.length ≤ n + 1 := hD.on.sum
      have hnx : ({ c.tick at_ with rb := q.2.2, broken := q.2.1 } : Cl).next ≤ ((n + 1 : Nat) : Int) + 1 := hD.on.next
      have hou : ({ c.tick at_ with rb := q.2.2, broken := q.2.1 } : Cl).out.length ≤ 1024 * (n + 1) := hD.on.out
      have hla : ({ c.tick at_ with rb := q.2.2, broken := q.2.1 } : Cl).last = nowF c.last k at_ := hD.last
      have htm : ({ c.tick at_ with rb := q.2.2, broken := q.2.1 } : Cl).tmo = tmo := hD.on.tmo
      have hr2 : ({ c.tick at_ with rb := q.2.2, broken := q.2.1 } : Cl).rb = q.2.2 := rfl
      have hb2 : ({ c.tick at_ with rb := q.2.2, broken := q.2.1 } : Cl).broken = q.2.1 := rfl
      generalize ({ c.tick at_ with rb := q.2.2, broken := q.2.1 } : Cl) = c2 at r2 f2 w2 n2 hsm hnx hou hla htm hr2 hb2 ⊢
      obtain ⟨a1, a2, a3, a4, a5, a6, a7⟩ := take_same q.1 c2
      obtain ⟨r3, f3⟩ := r2.take f2 (l := q.1)
      by_cases hz : (if (c2.take q.1).2 then 50 else if q.2.1 then 50 else 0 : Int) = 0
      · rw [if_pos hz]
        have hbr : q.2.1 = false := by
          cases hq9 : q.2.1 with
          | false => rfl
          | true =>
            rw [hq9] at hz
            cases hz9 : (c2.take q.1).2 <;> rw [hz9] at hz <;> simp at hz
        exact ⟨⟨WOK.take w2, NOK.take n2, by rw [a6, hb2, hbr], by rw [a3]; exact hnx, by rw [a4]; exact hou, by rw [a5, hr2]; omega, Nat.le_trans a7 hsm, f3, by rw [a2]; exact htm⟩, r3, by rw [a1]; exact hla⟩
      · rw [if_neg hz]
        refine ⟨OnI.down (WOK.take w2) (NOK.take n2) (by rw [a3]; exact hnx) (Nat.le_trans a7 hsm) (by rw [a2]; exact htm), r3.downs (WOK.take w2).asc, ?_⟩
        show (c2.take q.1).1.last = _
        rw [a1]
        exact hla
    · exact hD
  · rename_i he
    exact Did.stay hI ht (now_stay hI.w he)

theorem Did.send {c : Cl} {tmo : Int} {n : Nat} {k at_ : Int} (hI : OnI c tmo n) (ht : c.told = []) (hk : ¬ (0 ≤ k ∧ k ≤ 6)) : Did c.waits c { c with out := [] } tmo n k at_ := by
  have hm := hI.mono (Nat.le_succ n)
  refine ⟨⟨hI.w.noup (u := c.up) (b := c.backoff) (d := c.dial), ⟨hI.nk.tmo, hI.nk.least, hI.nk.back, hI.nk.most, hI.nk.name⟩, hI.br, hm.next, Nat.zero_le _, hm.rb, hm.sum, hI.fresh, hI.tmo⟩, (Rel.init hI.w.asc ht).congr rfl rfl rfl rfl, ?_⟩
  unfold nowF
  rw [if_neg fun hh => hk ⟨hh.1, hh.2.1⟩]

theorem Did.none {c : Cl} {tmo : Int} {n : Nat} {k at_ : Int} (hI : OnI c tmo n) (ht : c.told = []) (hk : ¬ (0 ≤ k ∧ k ≤ 6)) : Did c.waits c c tmo n k at_ := by
  refine Did.stay hI ht ?_
  unfold nowF
  rw [if_neg fun hh => hk ⟨hh.1, hh.2.1⟩]

def Cl.askA (c : Cl) (at_ : Int) (r : Rq) : List (Int × Int) := if (c.askR at_ r).1.2.2 = 0 ∧ (c.askR at_ r).1.2.1 = false then c.waits ++ [((c.askR at_ r).1.1, at_)] else c.waits

theorem Did.ask {c : Cl} {tmo : Int} {n : Nat} {at_ : Int} {r : Rq} (hn : n ≤ 1000) (hI : OnI c tmo n) (ht : c.told = []) : Did (c.askA at_ r) c (c.askR at_ r).2 tmo n 1 at_ ∧ ((c.askR at_ r).1.2.2 = 0 → (c.askR at_ r).1.2.1 = false → (c.askR at_ r).1.1 = c.next) := by
  have hnx := hI.next
  have hsm := hI.sum
  have hW := hI.w.ask (by omega) (by omega) at_ r
  unfold Cl.askA
  unfold Cl.askR at hW ⊢
  by_cases he : c.atE at_ = 0
  · rw [if_pos he] at hW ⊢
    have hD := Did.ticked (k := 1) hI ht he (by decide) (by decide)
    by_cases h1 : rightB (setId r 0) = true ∧ r.2.1 ≠ 5
    · rw [if_pos h1] at hW ⊢
      by_cases h2 : c.up = true ∧ (c.tick at_).waits.length < 256
      · rw [if_pos h2] at hW ⊢
        rw [if_pos ⟨rfl, rfl⟩]
        have h3 := hI.out
        have h4 := allB_len (setId r c.next)
        have hts := tick_sum c at_
        have hz := atE_zero he
        refine ⟨⟨⟨hW, ⟨hI.nk.tmo, hI.nk.least, hI.nk.back, hI.nk.most, hI.nk.name⟩, hI.br, ?_, ?_, hD.on.rb, ?_, ?_, hI.tmo⟩, ⟨?_, ?_, hD.rel.nodup, fun t hT => ?_⟩, hD.last⟩, fun _ _ => rfl⟩
        · show c.next + 1 ≤ _
          omega
        · show (c.out ++ _).length ≤ _
          rw [List.length_append]
          omega
        · show (c.tick at_).told.length + ((c.tick at_).waits ++ [_]).length ≤ _
          rw [List.length_append]
          simp only [List.length_cons, List.length_nil]
          omega
        · intro p hp
          rcases List.mem_append.1 (show p ∈ (c.tick at_).waits ++ [(c.next, at_)] from hp) with h9 | h9
          · exact Fresh.tick c at_ p h9
          · have : p = (c.next, at_) := List.mem_singleton.1 h9
            subst this
            show at_ - at_ < c.tmo
            have := hI.nk.tmo
            omega
        · exact asc_snoc hI.w.asc fun p hp => (hI.w.ids p hp).2
        · show (c.waits ++ [(c.next, at_)]).filter (fun p => !toldB (c.tick at_).told p) = (c.tick at_).waits ++ [(c.next, at_)]
          rw [List.filter_append, hD.rel.rest]
          have : toldB (c.tick at_).told (c.next, at_) = false := by
            unfold toldB
            refine List.any_eq_false.2 fun t hT he9 => ?_
            obtain ⟨p, hp, hpe, _⟩ := hD.rel.each t hT
            have := (hI.w.ids p hp).2
            have : t.id = c.next := by simpa using he9
            omega
          rw [List.filter_cons, this]
          rfl
        · obtain ⟨p, hp, hpe, hpf⟩ := hD.rel.each t hT
          exact ⟨p, List.mem_append_left _ hp, hpe, hpf⟩
      · rw [if_neg h2] at hW ⊢
        rw [if_neg fun h => absurd h.2 (by simp)]
        exact ⟨hD, fun _ h => absurd h (by simp)⟩
    · rw [if_neg h1] at hW ⊢
      rw [if_neg fun h => absurd h.1 (by simp)]
      exact ⟨hD, fun h => absurd h (by simp)⟩
  · rw [if_neg he] at hW ⊢
    rw [if_neg fun h => he h.1]
    exact ⟨Did.stay hI ht (now_stay hI.w he), fun h => absurd h he⟩

theorem Mon.filter {l : List (Int × Int)} (hM : Mon l) (f : Int × Int → Bool) : Mon (l.filter f) := List.Pairwise.filter f hM

theorem Mon.sub {l l' : List (Int × Int)} (hM : Mon l) (h : l'.Sublist l) : Mon l' := List.Pairwise.sublist h hM

theorem answ_sub (c : Cl) (a : An) : (c.answ a).waits.Sublist c.waits := by
  unfold Cl.answ
  split
  · exact List.filter_sublist
  · exact List.Sublist.refl _

theorem take_sub : ∀ (l : List (List UInt8)) (c : Cl), (c.take l).1.waits.Sublist c.waits
  | [], _ => List.Sublist.refl _
  | p :: ps, c => by
    unfold Cl.take
    split
    · exact List.Sublist.refl _
    · exact (take_sub ps _).trans (answ_sub c _)

structure On2 (c : Cl) (n : Nat) : Prop where
  w : WOK c
  nk : NOK c
  br : c.broken = false
  mon : Mon c.waits
  next : c.next ≤ (n : Int) + 1
  out : c.out.length ≤ 1024 * n
  rb : c.rb.length ≤ 1048576 * n
  sum : c.told.length + c.waits.length ≤ n

theorem On2.mono {c : Cl} {n n' : Nat} (h : On2 c n) (hn : n ≤ n') : On2 c n' :=
  ⟨h.w, h.nk, h.br, h.mon, by have := h.next; omega, by have := h.out; omega, by have := h.rb; omega, by have := h.sum; omega⟩

theorem On2.succ {c : Cl} {n : Nat} (h : On2 c n) : On2 c (n + 1) := h.mono (Nat.le_succ n)

theorem On2.tick {c : Cl} {n : Nat} (h : On2 c n) {at_ : Int} (he : c.atE at_ = 0) : On2 (c.tick at_) n :=
  ⟨h.w.tick he, h.nk.tick at_, h.br, h.mon.filter _, h.next, h.out, h.rb, by rw [tick_sum]; exact h.sum⟩

theorem On2.down {c : Cl} {n : Nat} (hw : WOK c) (hn : NOK c) (h1 : c.next ≤ (n : Int) + 1) (h2 : c.told.length + c.waits.length ≤ n) : On2 c.down n := by
  refine ⟨hw.down, hn.down, rfl, List.Pairwise.nil, h1, Nat.zero_le _, Nat.zero_le _, ?_⟩
  show (c.told ++ List.map _ _).length + 0 ≤ _
  rw [List.length_append, List.length_map]
  omega

theorem On2.atS {c : Cl} {n : Nat} (hI : On2 c n) (at_ : Int) : On2 (c.atS at_) n := by
  unfold Cl.atS
  split
  · rename_i he
    exact hI.tick he
  · exact hI

theorem On2.upS {c : Cl} {n : Nat} (hI : On2 c n) (at_ : Int) : On2 (c.upS at_) (n + 1) := by
  unfold Cl.upS
  split
  · rename_i he
    have hD := (hI.tick he).succ
    split
    · exact hD
    · have h1 := hI.nk.least
      have h2 := hI.nk.back
      have h3 := hI.out
      have h4 := allB_len (helloR c.name)
      refine ⟨(hI.w.tick he).noup (d := c.dial), ⟨hI.nk.tmo, h1, ⟨Int.le_refl _, Int.le_trans h2.1 h2.2⟩, hI.nk.most, hI.nk.name⟩, hI.br, hD.mon, hD.next, ?_, hD.rb, hD.sum⟩
      show (c.out ++ _).length ≤ _
      rw [List.length_append]
      omega
  · exact hI.succ

theorem On2.refS {c : Cl} {n : Nat} (hI : On2 c n) (at_ : Int) : On2 (c.refS at_) n := by
  unfold Cl.refS
  split
  · rename_i he
    have hD := hI.tick he
    split
    · exact hD
    · exact ⟨(hI.w.tick he).noup (u := c.up) (o := c.out), (hI.nk.tick at_).failed, hI.br, hD.mon, hD.next, hD.out, hD.rb, hD.sum⟩
  · exact hI

theorem On2.lostS {c : Cl} {n : Nat} (hI : On2 c n) (at_ : Int) : On2 (c.lostS at_) n := by
  unfold Cl.lostS
  split
  · rename_i he
    have hD := hI.tick he
    split
    · exact On2.down hD.w hD.nk hD.next hD.sum
    · exact hD
  · exact hI

theorem On2.bytes {c : Cl} {n : Nat} {l : List UInt8} (hl : l.length ≤ 1048576) (hI : On2 c n) (at_ : Int) : On2 (c.bytesR at_ l).1 (n + 1) := by
  unfold Cl.bytesR
  split
  · rename_i he
    have hD := (hI.tick he).succ
    split
    · show On2 ((c.tick at_).putB l).1 _
      unfold Cl.putB
      dsimp only
      have hq : putS (c.tick at_).rb (c.tick at_).broken l = cutA (c.rb ++ l) := by
        show putS c.rb c.broken l = _
        unfold putS
        rw [hI.br]
        rfl
      rw [hq]
      have hlen := cutA_len (c.rb ++ l).length (c.rb ++ l) (Nat.le_refl _)
      generalize cutA (c.rb ++ l) = q at hlen
      have hrb := hI.rb
      rw [List.length_append] at hlen
      have w2 : WOK { c.tick at_ with rb := q.2.2, broken := q.2.1 } := hD.w.rbs
      have n2 : NOK { c.tick at_ with rb := q.2.2, broken := q.2.1 } := hD.nk.rbs
      have m2 : Mon ({ c.tick at_ with rb := q.2.2, broken := q.2.1 } : Cl).waits := hD.mon
      have hsm : ({ c.tick at_ with rb := q.2.2, broken := q.2.1 } : Cl).told.length + ({ c.tick at_ with rb := q.2.2, broken := q.2.1 } : Cl).waits.length ≤ n + 1 := hD.sum
      have hnx : ({ c.tick at_ with rb := q.2.2, broken := q.2.1 } : Cl).next ≤ ((n + 1 : Nat) : Int) + 1 := hD.next
      have hou : ({ c.tick at_ with rb := q.2.2, broken := q.2.1 } : Cl).out.length ≤ 1024 * (n + 1) := hD.out
      have hr2 : ({ c.tick at_ with rb := q.2.2, broken := q.2.1 } : Cl).rb = q.2.2 := rfl
      have hb2 : ({ c.tick at_ with rb := q.2.2, broken := q.2.1 } : Cl).broken = q.2.1 := rfl
      generalize ({ c.tick at_ with rb := q.2.2, broken := q.2.1 } : Cl) = c2 at w2 n2 m2 hsm hnx hou hr2 hb2 ⊢
      obtain ⟨a1, a2, a3, a4, a5, a6, a7⟩ := take_same q.1 c2
      by_cases hz : (if (c2.take q.1).2 then 50 else if q.2.1 then 50 else 0 : Int) = 0
      · rw [if_pos hz]
        have hbr : q.2.1 = false := by
          cases hq9 : q.2.1 with
          | false => rfl
          | true =>
            rw [hq9] at hz
            cases hz9 : (c2.take q.1).2 <;> rw [hz9] at hz <;> simp at hz
        exact ⟨WOK.take w2, NOK.take n2, by rw [a6, hb2, hbr], m2.sub (take_sub _ _), by rw [a3]; exact hnx, by rw [a4]; exact hou, by rw [a5, hr2]; omega, Nat.le_trans a7 hsm⟩
      · rw [if_neg hz]
        exact On2.down (WOK.take w2) (NOK.take n2) (by rw [a3]; exact hnx) (Nat.le_trans a7 hsm)
    · exact hD
  · exact hI.succ

theorem On2.ask {c : Cl} {n : Nat} (hn : n ≤ 1000) (hI : On2 c n) (at_ : Int) (r : Rq) : On2 (c.askR at_ r).2 (n + 1) := by
  have hnx := hI.next
  have hsm := hI.sum
  have hW := hI.w.ask (by omega) (by omega) at_ r
  unfold Cl.askR at hW ⊢
  by_cases he : c.atE at_ = 0
  · rw [if_pos he] at hW ⊢
    have hT := hI.tick he
    have hD := hT.succ
    by_cases h1 : rightB (setId r 0) = true ∧ r.2.1 ≠ 5
    · rw [if_pos h1] at hW ⊢
      by_cases h2 : c.up = true ∧ (c.tick at_).waits.length < 256
      · rw [if_pos h2] at hW ⊢
        have h3 := hI.out
        have h4 := allB_len (setId r c.next)
        have hts := tick_sum c at_
        refine ⟨hW, ⟨hI.nk.tmo, hI.nk.least, hI.nk.back, hI.nk.most, hI.nk.name⟩, hI.br, ?_, ?_, ?_, hD.rb, ?_⟩
        · show Mon ((c.tick at_).waits ++ [(c.next, at_)])
          unfold Mon
          rw [List.pairwise_append]
          refine ⟨hT.mon, List.pairwise_singleton _ _, fun a ha b hb => ?_⟩
          have : b = (c.next, at_) := List.mem_singleton.1 hb
          subst this
          exact (hT.w.ats a ha).2
        · show c.next + 1 ≤ _
          omega
        · show (c.out ++ _).length ≤ _
          rw [List.length_append]
          omega
        · show (c.tick at_).told.length + ((c.tick at_).waits ++ [_]).length ≤ _
          rw [List.length_append]
          simp only [List.length_cons, List.length_nil]
          omega
      · rw [if_neg h2]
        exact hD
    · rw [if_neg h1]
      exact hD
  · rw [if_neg he]
    exact hI.succ

theorem On2.sent {c : Cl} {n : Nat} (hI : On2 c n) : On2 { c with out := [] } n :=
  ⟨hI.w.noup (u := c.up) (b := c.backoff) (d := c.dial), ⟨hI.nk.tmo, hI.nk.least, hI.nk.back, hI.nk.most, hI.nk.name⟩, hI.br, hI.mon, hI.next, Nat.zero_le _, hI.rb, hI.sum⟩

theorem On2.said {c : Cl} {n : Nat} (hI : On2 c n) : On2 { c with told := [] } n := by
  have h1 := hI.sum
  have h2 := hI.w.sum
  exact ⟨⟨hI.w.asc, hI.w.ids, hI.w.ats, hI.w.last, hI.w.next, by show 0 + c.waits.length ≤ _; omega⟩, ⟨hI.nk.tmo, hI.nk.least, hI.nk.back, hI.nk.most, hI.nk.name⟩, hI.br, hI.mon, hI.next, hI.out, hI.rb, by show 0 + c.waits.length ≤ _; omega⟩

end Go.Proofs.Ytbofhmcjcllcaaa
