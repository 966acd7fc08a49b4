/- Numbers and names: what the small functions of both packages tell. -/
import Derived.Test.YtcgpdmlopbnpcaaM
import Derived.Test.YtcgpdmlopbnpcaaFwU
import Derived.Laws.Strings
namespace Go.Proofs.Ytcgpdmlopbnpcaa
open Go Go.Fw

abbrev Rq := Int × Int × Int × Int × ByteArray × Int × Unit
abbrev An := Int × Int × Int × Int × Int × Unit

def inB (n lo hi : Int) : Bool := decide (n ≥ lo) && decide (n ≤ hi)

theorem from_spec {n lo hi : Int} {K : Bool → Heap → Prop} {h : Heap} (hk : K (inB n lo hi) h) : m_proto_from n lo hi K h := by
  unfold m_proto_from g_proto_from
  unfold inB at hk
  refine ⟨fun e => bindB_intro ?_, fun e => ?_⟩
  · rw [e] at hk; exact hk
  · rw [e] at hk; exact hk
theorem in_spec {n lo hi : Int} {K : Bool → Heap → Prop} {h : Heap} (hk : K (inB n lo hi) h) : m_spillwayref19_in n lo hi K h := by
  unfold m_spillwayref19_in g_spillwayref19_in
  unfold inB at hk
  refine ⟨fun e => bindB_intro ?_, fun e => ?_⟩
  · rw [e] at hk; exact hk
  · rw [e] at hk; exact hk

/-! ### names -/
def nameC (c : UInt8) : Bool := decide (33 ≤ c.toNat) && decide (c.toNat ≤ 126)
def nameB (s : ByteArray) : Bool := decide (1 ≤ s.size) && decide (s.size ≤ 64) && s.data.toList.all nameC

theorem byte_at {s : ByteArray} {k : Nat} (h : k < s.size) : ∃ c : UInt8, s[k]? = some c ∧ s.data.toList[k]? = some c := by
  refine ⟨s[k], ?_, ?_⟩
  · exact getElem?_pos s k h
  · rw [Array.getElem?_toList]
    exact getElem?_pos s.data k h

theorem all_bad {l : List UInt8} {k : Nat} {c : UInt8} (h : l[k]? = some c) (hc : nameC c = false) : l.all nameC = false := by
  rw [List.all_eq_false]
  exact ⟨c, List.mem_of_getElem? h, by simp [hc]⟩

theorem all_take {l : List UInt8} {k : Nat} {c : UInt8} (h : l[k]? = some c) (hc : nameC c = true) (ht : (l.take k).all nameC = true) : (l.take (k + 1)).all nameC = true := by
  have hk : k < l.length := by
    rcases Nat.lt_or_ge k l.length with h9 | h9
    · exact h9
    · rw [List.getElem?_eq_none h9] at h; cases h
  rw [List.take_succ_eq_append_getElem hk]
  have : l[k] = c := by rw [List.getElem?_eq_getElem hk] at h; exact Option.some.inj h
  simp [ht, this, hc]

theorem isName_spec {s : ByteArray} (hs : s.size < 9223372036854775808) {K : Bool → Heap → Prop} {h : Heap} (hk : K (nameB s) h) : m_proto_isName s K h := by
  unfold m_proto_isName g_proto_isName
  refine loopM_intro (fun p h' => h' = h ∧ ∃ k : Nat, p.1 = (k : Int) ∧ k ≤ s.size ∧ (s.data.toList.take k).all nameC = true) (fun p _ => s.size - p.1.toNat) ⟨rfl, 0, rfl, Nat.zero_le _, by simp⟩ ?_
  rintro ⟨i, u⟩ h' ⟨rfl, k, hi, hkl, hall⟩
  dsimp only at hi
  subst hi
  dsimp only
  refine iteP_dec (fun hlt => bindI_intro ?_) (fun hge => ?_)
  · have hk1 : k < s.size := by omega
    obtain ⟨c, h1, h2⟩ := byte_at hk1
    have hc8 := c.toNat_lt
    refine ⟨c, by omega, by rw [Int.toNat_natCast]; exact h1, from_spec ?_⟩
    rw [wrap64 (by omega) (by omega)]
    have e : inB (c.toNat : Int) 33 126 = nameC c := by
      unfold inB nameC
      congr 1
      · exact decide_eq_decide.2 (by omega)
      · exact decide_eq_decide.2 (by omega)
    rw [e]
    refine ⟨fun hb => ?_, fun hb => ?_⟩
    · have hb' : nameC c = false := by simpa using hb
      have : nameB s = false := by unfold nameB; rw [all_bad h2 hb', Bool.and_false]
      rw [this] at hk; exact hk
    · have hb' : nameC c = true := by simpa using hb
      rw [wrap64 (n := (k : Int) + 1) (by omega) (by omega)]
      exact ⟨⟨rfl, k + 1, by omega, by omega, all_take h2 hb' hall⟩, by omega⟩
  · have hfull : s.data.toList.take k = s.data.toList := List.take_of_length_le (by
      have : s.data.toList.length = s.size := by simp
      omega)
    rw [hfull] at hall
    refine from_spec (bindB_intro ?_)
    have : nameB s = inB (s.size : Int) 1 64 := by
      unfold nameB inB
      rw [hall, Bool.and_true]
      congr 1
      · exact decide_eq_decide.2 (by omega)
      · exact decide_eq_decide.2 (by omega)
    rw [← this]
    exact hk

theorem IsName_spec {s : ByteArray} {K : Bool → Heap → Prop} {h : Heap} (hk : K (nameB s) h) : m_spillwayref07_IsName s K h := by
  unfold m_spillwayref07_IsName g_spillwayref07_IsName
  refine iteP_dec (fun h1 => ?_) (fun h1 => iteP_dec (fun h2 => ?_) (fun h2 => bindI_intro ?_))
  · have : nameB s = false := by unfold nameB; rw [decide_eq_false (by omega)]; rfl
    rw [this] at hk; exact hk
  · have : nameB s = false := by unfold nameB; rw [decide_eq_false (p := s.size ≤ 64) (by omega)]; simp
    rw [this] at hk; exact hk
  refine loopM_intro (fun p h' => h' = h ∧ ∃ k : Nat, p.1 = (k : Int) ∧ k ≤ s.size ∧ (s.data.toList.take k).all nameC = true) (fun p _ => s.size - p.1.toNat) ⟨rfl, 0, rfl, Nat.zero_le _, by simp⟩ ?_
  rintro ⟨i, u⟩ h' ⟨rfl, k, hi, hkl, hall⟩
  dsimp only at hi
  subst hi
  dsimp only
  refine iteP_dec (fun hlt => ?_) (fun hge => ?_)
  · have hk1 : k < s.size := by omega
    obtain ⟨c, h1', h2'⟩ := byte_at hk1
    have hc8 := c.toNat_lt
    have bad : nameC c = false → K false h' := fun hb' => by
      have : nameB s = false := by unfold nameB; rw [all_bad h2' hb', Bool.and_false]
      rw [this] at hk; exact hk
    refine ⟨c, by omega, by rw [Int.toNat_natCast]; exact h1', iteP_dec (fun h3 => bad ?_) (fun h3 => ⟨c, by omega, by rw [Int.toNat_natCast]; exact h1', iteP_dec (fun h4 => bad ?_) (fun h4 => bindI_intro ?_)⟩)⟩
    · unfold nameC; rw [decide_eq_false (by omega)]; rfl
    · unfold nameC; rw [decide_eq_false (p := c.toNat ≤ 126) (by omega)]; simp
    · rw [wrap64 (n := (k : Int) + 1) (by omega) (by omega)]
      refine ⟨⟨rfl, k + 1, by omega, by omega, all_take h2' ?_ hall⟩, by omega⟩
      unfold nameC
      rw [decide_eq_true (by omega), decide_eq_true (by omega)]
      rfl
  · have hfull : s.data.toList.take k = s.data.toList := List.take_of_length_le (by
      have : s.data.toList.length = s.size := by simp
      omega)
    rw [hfull] at hall
    have : nameB s = true := by
      unfold nameB
      rw [hall, decide_eq_true (by omega), decide_eq_true (by omega)]
      rfl
    rw [← this]
    exact hk

/-! ### what may be -/
def flowB (r : Rq) : Bool := inB r.2.2.1 1 1099511627776 && inB r.2.2.2.1 1 1099511627776
def bareB (r : Rq) : Bool := r.2.2.1 == 0 && r.2.2.2.1 == 0
def rightB (r : Rq) : Bool :=
  inB r.1 0 2147483647 &&
  (bif (r.2.1 == 1 || r.2.1 == 3) then flowB r && r.2.2.2.2.2.1 == 0 && r.2.2.2.2.1.size == 0
   else bif r.2.1 == 2 then flowB r && r.2.2.2.2.2.1 == 0 && decide (r.2.2.2.2.1.size ≤ 64)
   else bif r.2.1 == 4 then bareB r && inB r.2.2.2.2.2.1 1 2147483647 && r.2.2.2.2.1.size == 0
   else bif r.2.1 == 5 then bareB r && r.2.2.2.2.2.1 == 0 && nameB r.2.2.2.2.1
   else false)
def rightA (a : An) : Bool := inB a.1 0 2147483647 && (decide (a.2.1 ≥ 1) && (decide (a.2.1 ≤ 8) && (inB a.2.2.1 0 1099511627776 && (inB a.2.2.2.1 0 1099511627776 && inB a.2.2.2.2.1 0 2147483647))))

theorem strEq_nil (s : ByteArray) : strEq s (ByteArray.mk #[]) = (s.size == 0) := by
  unfold strEq
  rw [ByteArray.toList_eq, ByteArray.toList_eq]
  obtain ⟨⟨l⟩⟩ := s
  show (l == []) = (l.length == 0)
  cases l <;> rfl

theorem size_dec (s : ByteArray) : decide ((s.size : Int) ≤ 64) = decide (s.size ≤ 64) := decide_eq_decide.2 (by omega)

/-- a request's cells -/
abbrev rqC (r : Rq) : List Value := [.int .i64 r.1, .int .u8 r.2.1, .int .i64 r.2.2.1, .int .i64 r.2.2.2.1, .string r.2.2.2.2.1, .int .i64 r.2.2.2.2.2.1]
abbrev anC (a : An) : List Value := [.int .i64 a.1, .int .u8 a.2.1, .int .i64 a.2.2.1, .int .i64 a.2.2.2.1, .int .i64 a.2.2.2.2.1]

theorem newK {h : Heap} {cells : List Value} {t : TypeId} {K : Nat → Heap → Prop} (hk : ∀ h1, h1[h.size]? = some (.cells cells.toArray t (0, 0)) → Ext h h1 → h1.size = h.size + 1 → K h.size h1) : newC h cells t K :=
  newC_intro (hk _ push_new (Ext.push _ _) (by simp))

theorem ldIk {h : Heap} {b o : Nat} {k : IntKind} {n : Int} {c : Array Value} {e : TypeId} {K : Int → Prop} (hb : h[b]? = some (.cells c e (0, 0))) (hc : c[o]? = some (.int k n)) (hk : K n) : ldI h b o k K := ⟨n, (cell_block hb).trans hc, hk⟩
theorem ldSk {h : Heap} {b o : Nat} {n : ByteArray} {c : Array Value} {e : TypeId} {K : ByteArray → Prop} (hb : h[b]? = some (.cells c e (0, 0))) (hc : c[o]? = some (.string n)) (hk : K n) : ldS h b o K := ⟨n, (cell_block hb).trans hc, hk⟩

theorem Right_spec {r : Rq} (hs : r.2.2.2.2.1.size < 9223372036854775808) {K : Bool → Heap → Prop} {h : Heap} (hk : ∀ h', Ext h h' → K (rightB r) h') : m_proto_Right r K h := by
  unfold m_proto_Right g_proto_Right
  obtain ⟨id, want, flow, count, text, token, u⟩ := r
  dsimp only at hs ⊢
  refine newK fun h1 hb hext _ => ?_
  replace hk := hk h1 hext
  refine cutP_intro (fun s h' => h' = h1 ∧ s.1 = (flowB (id, want, flow, count, text, token, u) && token == 0)) ?_ ?_
  · rintro ⟨asks, u2⟩ h' ⟨rfl, ha⟩
    dsimp only at ha ⊢
    refine cutP_intro (fun s h'' => h'' = h' ∧ s.1 = bareB (id, want, flow, count, text, token, u)) ?_ ?_
    · rintro ⟨bare, u2⟩ h'' ⟨rfl, hbare⟩
      dsimp only at hbare ⊢
      refine ldIk hb rfl (from_spec ?_)
      unfold rightB at hk
      dsimp only at hk
      rw [← ha, ← hbare] at hk
      refine ⟨fun e => ?_, fun e => ldIk hb rfl ?_⟩
      · have e' : inB id 0 2147483647 = false := by simpa using e
        rw [e'] at hk; exact hk
      have e' : inB id 0 2147483647 = true := by simpa using e
      rw [e', Bool.true_and] at hk
      refine cutP_intro (fun s h' => h' = h'' ∧ s.1 = (want == 1 || want == 3)) ?_ ?_
      · rintro ⟨s32, u2⟩ h' ⟨rfl, hw⟩
        dsimp only at hw ⊢
        rw [← hw] at hk
        refine ⟨fun e => ?_, fun e => bindB_intro ?_⟩
        · rw [e, cond_true] at hk
          refine ⟨fun e => ldSk hb rfl (bindB_intro ?_), fun e => ?_⟩
          · rw [strEq_nil]
            rw [e, Bool.true_and] at hk
            exact hk
          · rw [e] at hk; exact hk
        rw [e, cond_false] at hk
        refine ⟨fun e => ?_, fun e => bindB_intro ?_⟩
        · rw [e, cond_true] at hk
          refine ⟨fun e => ldSk hb rfl (bindB_intro ?_), fun e => ?_⟩
          · rw [size_dec]
            rw [e, Bool.true_and] at hk
            exact hk
          · rw [e] at hk; exact hk
        rw [e, cond_false] at hk
        refine ⟨fun e => ?_, fun e => bindB_intro ?_⟩
        · rw [e, cond_true] at hk
          refine ⟨fun e => ldIk hb rfl (from_spec ?_), fun e => ?_⟩
          · rw [e, Bool.true_and] at hk
            refine ⟨fun e => ldSk hb rfl (bindB_intro ?_), fun e => ?_⟩
            · rw [strEq_nil]
              rw [e, Bool.true_and] at hk
              exact hk
            · rw [e] at hk; exact hk
          · rw [e] at hk; exact hk
        rw [e, cond_false] at hk
        refine ⟨fun e => ?_, fun e => ?_⟩
        · rw [e, cond_true] at hk
          refine ⟨fun e => ldIk hb rfl ?_, fun e => ?_⟩
          · rw [e, Bool.true_and] at hk
            refine ⟨fun e => ldSk hb rfl (isName_spec hs (bindB_intro ?_)), fun e => ?_⟩
            · rw [e, Bool.true_and] at hk
              exact hk
            · rw [e] at hk; exact hk
          · rw [e] at hk; exact hk
        rw [e, cond_false] at hk
        exact hk
      · refine bindB_intro ⟨fun e => ⟨rfl, ?_⟩, fun e => bindB_intro ⟨rfl, ?_⟩⟩
        · rw [e]; rfl
        · rw [e]; rfl
    · refine ldIk hb rfl ⟨fun e => ldIk hb rfl (bindB_intro ⟨rfl, ?_⟩), fun e => ⟨rfl, ?_⟩⟩
      · unfold bareB; dsimp only; rw [e, Bool.true_and]
      · unfold bareB; dsimp only; rw [e]; rfl
  · refine ldIk hb rfl (from_spec ⟨fun e => ldIk hb rfl (from_spec ⟨fun e2 => ldIk hb rfl (bindB_intro ⟨rfl, ?_⟩), fun e2 => ⟨rfl, ?_⟩⟩), fun e => ⟨rfl, ?_⟩⟩)
    · unfold flowB; dsimp only; rw [e, e2]; rfl
    · unfold flowB; dsimp only; rw [e, e2]; rfl
    · unfold flowB; dsimp only; rw [e]; rfl

theorem RRight_spec {r : Rq} {K : Bool → Heap → Prop} {h : Heap} (hk : ∀ h', Ext h h' → K (rightB r) h') : m_spillwayref19_Right r K h := by
  unfold m_spillwayref19_Right g_spillwayref19_Right
  obtain ⟨id, want, flow, count, text, token, u⟩ := r
  dsimp only
  refine newK fun h1 hb hext _ => ?_
  replace hk := hk h1 hext
  refine cutP_intro (fun s h' => h' = h1 ∧ s.1 = flowB (id, want, flow, count, text, token, u)) ?_ ?_
  · rintro ⟨asks, u2⟩ h' ⟨rfl, ha⟩
    dsimp only at ha ⊢
    refine cutP_intro (fun s h'' => h'' = h' ∧ s.1 = bareB (id, want, flow, count, text, token, u)) ?_ ?_
    · rintro ⟨bare, u2⟩ h'' ⟨rfl, hbare⟩
      dsimp only at hbare ⊢
      refine ldIk hb rfl (in_spec ?_)
      unfold rightB at hk
      dsimp only at hk
      rw [← ha, ← hbare] at hk
      refine ⟨fun e => ?_, fun e => ldIk hb rfl ?_⟩
      · have e' : inB id 0 2147483647 = false := by simpa using e
        rw [e'] at hk; exact hk
      have e' : inB id 0 2147483647 = true := by simpa using e
      rw [e', Bool.true_and] at hk
      refine cutP_intro (fun s h' => h' = h'' ∧ s.1 = (want == 1 || want == 3)) ?_ ?_
      · rintro ⟨s32, u2⟩ h' ⟨rfl, hw⟩
        dsimp only at hw ⊢
        rw [← hw] at hk
        refine ⟨fun e => ?_, fun e => bindB_intro ?_⟩
        · rw [e, cond_true] at hk
          refine ⟨fun e => ldSk hb rfl ?_, fun e => ?_⟩
          · rw [strEq_nil]
            rw [e, Bool.true_and] at hk
            refine ⟨fun e => ldIk hb rfl (bindB_intro ?_), fun e => ?_⟩
            · rw [e, Bool.and_true] at hk; exact hk
            · rw [e, Bool.and_false] at hk; exact hk
          · rw [e] at hk; exact hk
        rw [e, cond_false] at hk
        refine ⟨fun e => ?_, fun e => bindB_intro ?_⟩
        · rw [e, cond_true] at hk
          refine ⟨fun e => ldSk hb rfl ?_, fun e => ?_⟩
          · rw [size_dec]
            rw [e, Bool.true_and] at hk
            refine ⟨fun e => ldIk hb rfl (bindB_intro ?_), fun e => ?_⟩
            · rw [e, Bool.and_true] at hk; exact hk
            · rw [e, Bool.and_false] at hk; exact hk
          · rw [e] at hk; exact hk
        rw [e, cond_false] at hk
        refine ⟨fun e => ?_, fun e => bindB_intro ?_⟩
        · rw [e, cond_true] at hk
          refine ⟨fun e => ldSk hb rfl ?_, fun e => ?_⟩
          · rw [strEq_nil]
            rw [e, Bool.true_and] at hk
            refine ⟨fun e => ldIk hb rfl (in_spec (bindB_intro ?_)), fun e => ?_⟩
            · rw [e, Bool.and_true] at hk; exact hk
            · rw [e, Bool.and_false] at hk; exact hk
          · rw [e] at hk; exact hk
        rw [e, cond_false] at hk
        refine ⟨fun e => ?_, fun e => ?_⟩
        · rw [e, cond_true] at hk
          refine ⟨fun e => ldSk hb rfl (IsName_spec ?_), fun e => ?_⟩
          · rw [e, Bool.true_and] at hk
            refine ⟨fun e => ldIk hb rfl (bindB_intro ?_), fun e => ?_⟩
            · rw [e, Bool.and_true] at hk; exact hk
            · rw [e, Bool.and_false] at hk; exact hk
          · rw [e] at hk; exact hk
        rw [e, cond_false] at hk
        exact hk
      · refine bindB_intro ⟨fun e => ⟨rfl, ?_⟩, fun e => bindB_intro ⟨rfl, ?_⟩⟩
        · rw [e]; rfl
        · rw [e]; rfl
    · refine ldIk hb rfl ⟨fun e => ldIk hb rfl (bindB_intro ⟨rfl, ?_⟩), fun e => ⟨rfl, ?_⟩⟩
      · unfold bareB; dsimp only; rw [e, Bool.true_and]
      · unfold bareB; dsimp only; rw [e]; rfl
  · refine ldIk hb rfl (in_spec ⟨fun e => ldIk hb rfl (in_spec (bindB_intro ⟨rfl, ?_⟩)), fun e => ⟨rfl, ?_⟩⟩)
    · unfold flowB; dsimp only; rw [e]; rfl
    · unfold flowB; dsimp only; rw [e]; rfl

theorem RightA_spec {a : An} {K : Bool → Heap → Prop} {h : Heap} (hk : ∀ h', Ext h h' → K (rightA a) h') : m_proto_RightAnswer a K h := by
  unfold m_proto_RightAnswer g_proto_RightAnswer
  obtain ⟨id, want, flow, count, token, u⟩ := a
  dsimp only
  refine newK fun h1 hb hext _ => ?_
  replace hk := hk h1 hext
  unfold rightA at hk
  dsimp only at hk
  refine ldIk hb rfl (from_spec ⟨fun e => ?_, fun e => (by rw [e] at hk; exact hk)⟩)
  rw [e, Bool.true_and] at hk
  refine ldIk hb rfl ⟨fun e => ?_, fun e => (by rw [e] at hk; exact hk)⟩
  rw [e, Bool.true_and] at hk
  refine ldIk hb rfl ⟨fun e => ?_, fun e => (by rw [e] at hk; exact hk)⟩
  rw [e, Bool.true_and] at hk
  refine ldIk hb rfl (from_spec ⟨fun e => ?_, fun e => (by rw [e] at hk; exact hk)⟩)
  rw [e, Bool.true_and] at hk
  refine ldIk hb rfl (from_spec ⟨fun e => ?_, fun e => (by rw [e] at hk; exact hk)⟩)
  rw [e, Bool.true_and] at hk
  exact ldIk hb rfl (from_spec (bindB_intro hk))

theorem RRightA_spec {a : An} {K : Bool → Heap → Prop} {h : Heap} (hk : ∀ h', Ext h h' → K (rightA a) h') : m_spillwayref19_RightAnswer a K h := by
  unfold m_spillwayref19_RightAnswer g_spillwayref19_RightAnswer
  obtain ⟨id, want, flow, count, token, u⟩ := a
  dsimp only
  refine newK fun h1 hb hext _ => ?_
  replace hk := hk h1 hext
  unfold rightA at hk
  dsimp only at hk
  refine ldIk hb rfl (in_spec ⟨fun e => ?_, fun e => (by rw [e] at hk; exact hk)⟩)
  rw [e, Bool.true_and] at hk
  refine ldIk hb rfl ⟨fun e => ?_, fun e => (by rw [e] at hk; exact hk)⟩
  rw [e, Bool.true_and] at hk
  refine ldIk hb rfl ⟨fun e => ?_, fun e => (by rw [e] at hk; exact hk)⟩
  rw [e, Bool.true_and] at hk
  refine ldIk hb rfl (in_spec ⟨fun e => ?_, fun e => (by rw [e] at hk; exact hk)⟩)
  rw [e, Bool.true_and] at hk
  refine ldIk hb rfl (in_spec ⟨fun e => ?_, fun e => (by rw [e] at hk; exact hk)⟩)
  rw [e, Bool.true_and] at hk
  exact ldIk hb rfl (in_spec (bindB_intro hk))

end Go.Proofs.Ytcgpdmlopbnpcaa
