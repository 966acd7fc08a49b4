/- The models of the functions. Written by a program out of the translated functions. -/
import Derived.Test.YtcgpdmlopbnpcaaFwA
import GoSem.Machine.Frame
import GoSem.Op.String
namespace Go.Proofs.Ytcgpdmlopbnpcaa
open Go Go.Fw

/-- spillwaymem.Hand -/
def g_spillwaymem_Hand (l : Sl) (K : Sl → Heap → Prop) (h : Heap) : Prop :=
  mkS 5 1 [Value.int .u8 0] (IntKind.wrap .i64 ((l.len : Int) + 9)) (IntKind.wrap .i64 ((l.len : Int) + 9)) h fun t h1 => 
  bindI 0 fun i => 
  loopM (σ := Int × Unit) (fun J3 s h4 =>
    (fun (i2 : Int) =>
      iteP (decide (i2 < (l.len : Int))) (
        idxA l.ptr l.len i2 1 fun b o => 
        ldI h4 b o .u8 fun t5 => 
        idxA t.ptr t.len i2 1 fun b6 o7 => 
        st h4 b6 o7 (Value.int .u8 t5) fun h8 => 
        bindI (IntKind.wrap .i64 (i2 + 1)) fun i9 => 
        J3 (i9, ()) h8) (
        bindI (l.len : Int) fun i10 => 
        loopM (σ := Int × Unit) (fun J12 s13 h14 =>
          (fun (i11 : Int) =>
            iteP (decide (i11 < (t.len : Int))) (
              idxA t.ptr t.len i11 1 fun b15 o16 => 
              st h14 b15 o16 (Value.int .u8 (IntKind.wrap .u8 (IntKind.wrap .i64 ((IntKind.wrap .i64 ((160 : Int) + i11)) - (l.len : Int))))) fun h17 => 
              bindI (IntKind.wrap .i64 (i11 + 1)) fun i18 => 
              J12 (i18, ()) h17) (
              slc t.ptr t.cap 1 0 (l.len : Int) t.cap fun t19 => 
              K t19 h14)) s13.1) (i10, ()) h4)) s.1) (i, ()) h1

def m_spillwaymem_Hand (l : Sl) (K : Sl → Heap → Prop) (h : Heap) : Prop := g_spillwaymem_Hand l K h

/-- (*proto.reader).take -/
def g_proto_reader_take (r : Option Addr) (n : Int) (K : Sl → Heap → Prop) (h : Heap) : Prop :=
  cutP (σ := Unit) (fun s h20 =>
    derefP r fun b21 o22 => 
    ldI h20 b21 (o22 + 1) .i64 fun t23 => 
    derefP r fun b24 o25 => 
    st h20 b24 (o25 + 1) (Value.int .i64 (IntKind.wrap .i64 (t23 + n))) fun h26 => 
    derefP r fun b27 o28 => 
    ldL h26 b27 o28 fun t29 => 
    derefP r fun b30 o31 => 
    ldI h26 b30 (o31 + 1) .i64 fun t32 => 
    derefP r fun b33 o34 => 
    ldI h26 b33 (o34 + 1) .i64 fun t35 => 
    slc t29.ptr t29.cap 1 (IntKind.wrap .i64 (t32 - n)) t35 t29.cap fun t36 => 
    K t36 h26) (fun J1 =>
    derefP r fun b o => 
    ldB h b (o + 2) fun t => 
    iteP t (
      derefP r fun b2 o3 => 
      st h b2 (o3 + 2) (Value.bool true) fun h4 => 
      derefP r fun b5 o6 => 
      ldB h4 b5 (o6 + 2) fun t7 => 
      iteP t7 (
        K ⟨none, 0, 0⟩ h4) (
        J1 (()) h4)) (
      derefP r fun b8 o9 => 
      derefP r fun b10 o11 => 
      ldL h b8 o9 fun t12 => 
      ldI h b10 (o11 + 1) .i64 fun t13 => 
      derefP r fun b14 o15 => 
      st h b14 (o15 + 2) (Value.bool (decide ((IntKind.wrap .i64 ((t12.len : Int) - t13)) < n))) fun h16 => 
      derefP r fun b17 o18 => 
      ldB h16 b17 (o18 + 2) fun t19 => 
      iteP t19 (
        K ⟨none, 0, 0⟩ h16) (
        J1 (()) h16)))

def m_proto_reader_take (r : Option Addr) (n : Int) (K : Sl → Heap → Prop) (h : Heap) : Prop := g_proto_reader_take r n K h

/-- (*proto.reader).number -/
def g_proto_reader_number (f_proto_reader_take : (Option Addr) → Int → (Sl → Heap → Prop) → Heap → Prop) (r : Option Addr) (bytes : Int) (K : Int → Heap → Prop) (h : Heap) : Prop :=
  bindI 0 fun t => 
  bindI 0 fun n => 
  f_proto_reader_take r bytes (fun t1 h2 =>
    loopM (σ := Int × Int × Unit) (fun J4 s h5 =>
      (fun (n3 : Int) (s12 : Int) =>
        iteP (decide (s12 < (t1.len : Int))) (
          idxA t1.ptr t1.len s12 1 fun b o => 
          ldI h5 b o .u8 fun t6 => 
          bindI t6 fun c => 
          need (0 ≤ (8 : Int)) <| 
          bindI (orV .u64 (shlV .u64 n3 8) (IntKind.wrap .u64 c)) fun n7 => 
          J4 (n7, IntKind.wrap .i64 (s12 + 1), ()) h5) (
          bindI (IntKind.wrap .i64 n3) fun t8 => 
          K t8 h5)) s.1 s.2.1) (n, 0, ()) h2) h

def m_proto_reader_number (r : Option Addr) (bytes : Int) (K : Int → Heap → Prop) (h : Heap) : Prop := g_proto_reader_number m_proto_reader_take r bytes K h

/-- proto.from -/
def g_proto_from (n : Int) (lo : Int) (hi : Int) (K : Bool → Heap → Prop) (h : Heap) : Prop :=
  iteP (decide (n ≥ lo)) (
    bindB (decide (n ≤ hi)) fun t => 
    K t h) (
    K false h)

def m_proto_from (n : Int) (lo : Int) (hi : Int) (K : Bool → Heap → Prop) (h : Heap) : Prop := g_proto_from n lo hi K h

/-- proto.isName -/
def g_proto_isName (f_proto_from : Int → Int → Int → (Bool → Heap → Prop) → Heap → Prop) (s : ByteArray) (K : Bool → Heap → Prop) (h : Heap) : Prop :=
  loopM (σ := Int × Unit) (fun J1 s2 h3 =>
    (fun (s6 : Int) =>
      iteP (decide (s6 < (s.size : Int))) (
        bindI s6 fun i => 
        idxS s i fun t => 
        f_proto_from (IntKind.wrap .i64 t) 33 126 (fun t4 h5 =>
          iteP (!t4) (
            K false h5) (
            J1 (IntKind.wrap .i64 (s6 + 1), ()) h5)) h3) (
        f_proto_from (s.size : Int) 1 64 (fun t6 h7 =>
          bindB t6 fun t8 => 
          K t8 h7) h3)) s2.1) (0, ()) h

def m_proto_isName (s : ByteArray) (K : Bool → Heap → Prop) (h : Heap) : Prop := g_proto_isName m_proto_from s K h

/-- proto.Right -/
def g_proto_Right (f_proto_from : Int → Int → Int → (Bool → Heap → Prop) → Heap → Prop) (f_proto_isName : ByteArray → (Bool → Heap → Prop) → Heap → Prop) (r : Int × Int × Int × Int × ByteArray × Int × Unit) (K : Bool → Heap → Prop) (h : Heap) : Prop :=
  newC h [Value.int .i64 r.1, Value.int .u8 r.2.1, Value.int .i64 r.2.2.1, Value.int .i64 r.2.2.2.1, Value.string r.2.2.2.2.1, Value.int .i64 r.2.2.2.2.2.1] 26 fun b h1 => 
  cutP (σ := Bool × Unit) (fun s h10 =>
    (fun (asks9 : Bool) =>
      cutP (σ := Bool × Unit) (fun s15 h16 =>
        (fun (bare14 : Bool) =>
          ldI h16 b 0 .i64 fun t17 => 
          f_proto_from t17 0 2147483647 (fun t18 h19 =>
            iteP (!t18) (
              K false h19) (
              ldI h19 b (0 + 1) .u8 fun t20 => 
              cutP (σ := Bool × Unit) (fun s24 h25 =>
                (fun (s32 : Bool) =>
                  iteP s32 (
                    iteP asks9 (
                      ldS h25 b (0 + 4) fun t26 => 
                      bindB (strEq t26 (ByteArray.mk #[])) fun t27 => 
                      K t27 h25) (
                      K false h25)) (
                    bindB (t20 == 2) fun t28 => 
                    iteP t28 (
                      iteP asks9 (
                        ldS h25 b (0 + 4) fun t29 => 
                        bindB (decide ((t29.size : Int) ≤ 64)) fun t30 => 
                        K t30 h25) (
                        K false h25)) (
                      bindB (t20 == 4) fun t31 => 
                      iteP t31 (
                        iteP bare14 (
                          ldI h25 b (0 + 5) .i64 fun t32 => 
                          f_proto_from t32 1 2147483647 (fun t33 h34 =>
                            iteP t33 (
                              ldS h34 b (0 + 4) fun t35 => 
                              bindB (strEq t35 (ByteArray.mk #[])) fun t36 => 
                              K t36 h34) (
                              K false h34)) h25) (
                          K false h25)) (
                        bindB (t20 == 5) fun t37 => 
                        iteP t37 (
                          iteP bare14 (
                            ldI h25 b (0 + 5) .i64 fun t38 => 
                            iteP (t38 == 0) (
                              ldS h25 b (0 + 4) fun t39 => 
                              f_proto_isName t39 (fun t40 h41 =>
                                bindB t40 fun t42 => 
                                K t42 h41) h25) (
                              K false h25)) (
                            K false h25)) (
                          K false h25))))) s24.1) (fun J21 =>
                bindB (t20 == 1) fun t22 => 
                iteP t22 (
                  J21 (t22, ()) h19) (
                  bindB (t20 == 3) fun t23 => 
                  J21 (t23, ()) h19)))) h16) s15.1) (fun J11 =>
        ldI h10 b (0 + 2) .i64 fun t12 => 
        iteP (t12 == 0) (
          ldI h10 b (0 + 3) .i64 fun t13 => 
          bindB (t13 == 0) fun bare => 
          J11 (bare, ()) h10) (
          J11 (false, ()) h10))) s.1) (fun J2 =>
    ldI h1 b (0 + 2) .i64 fun t => 
    f_proto_from t 1 1099511627776 (fun t3 h4 =>
      iteP t3 (
        ldI h4 b (0 + 3) .i64 fun t5 => 
        f_proto_from t5 1 1099511627776 (fun t6 h7 =>
          iteP t6 (
            ldI h7 b (0 + 5) .i64 fun t8 => 
            bindB (t8 == 0) fun asks => 
            J2 (asks, ()) h7) (
            J2 (false, ()) h7)) h4) (
        J2 (false, ()) h4)) h1)

def m_proto_Right (r : Int × Int × Int × Int × ByteArray × Int × Unit) (K : Bool → Heap → Prop) (h : Heap) : Prop := g_proto_Right m_proto_from m_proto_isName r K h

/-- (*proto.reader).ended -/
def g_proto_reader_ended (r : Option Addr) (right : Bool) (K : Int → Int → Heap → Prop) (h : Heap) : Prop :=
  bindI 0 fun t => 
  bindI 0 fun t1 => 
  derefP r fun b o => 
  ldB h b (o + 2) fun t2 => 
  bindB t2 fun t3 => 
  iteP t3 (
    derefP r fun b4 o5 => 
    ldL h b4 o5 fun t6 => 
    bindI 6 fun t7 => 
    bindI (t6.len : Int) fun t8 => 
    K t7 t8 h) (
    derefP r fun b9 o10 => 
    ldI h b9 (o10 + 1) .i64 fun t11 => 
    derefP r fun b12 o13 => 
    ldL h b12 o13 fun t14 => 
    bindB (decide (t11 < (t14.len : Int))) fun t15 => 
    iteP t15 (
      derefP r fun b16 o17 => 
      ldI h b16 (o17 + 1) .i64 fun t18 => 
      bindI 6 fun t19 => 
      bindI t18 fun t20 => 
      K t19 t20 h) (
      bindB (!right) fun t21 => 
      iteP t21 (
        bindI 6 fun t22 => 
        bindI 0 fun t23 => 
        K t22 t23 h) (
        bindI 0 fun t24 => 
        bindI 0 fun t25 => 
        K t24 t25 h)))

def m_proto_reader_ended (r : Option Addr) (right : Bool) (K : Int → Int → Heap → Prop) (h : Heap) : Prop := g_proto_reader_ended r right K h

/-- proto.ReadRequest -/
def g_proto_ReadRequest (f_proto_reader_number : (Option Addr) → Int → (Int → Heap → Prop) → Heap → Prop) (f_proto_reader_take : (Option Addr) → Int → (Sl → Heap → Prop) → Heap → Prop) (f_proto_Right : (Int × Int × Int × Int × ByteArray × Int × Unit) → (Bool → Heap → Prop) → Heap → Prop) (f_proto_reader_ended : (Option Addr) → Bool → (Int → Int → Heap → Prop) → Heap → Prop) (b : Sl) (K : (Int × Int × Int × Int × ByteArray × Int × Unit) → Int → Int → Heap → Prop) (h : Heap) : Prop :=
  newC h [Value.int .i64 0, Value.int .u8 0, Value.int .i64 0, Value.int .i64 0, Value.string (ByteArray.mk #[]), Value.int .i64 0] 26 fun b1 h2 => 
  bindI 0 fun t => 
  bindI 0 fun t3 => 
  newC h2 [Value.slice b.ptr b.len b.cap, Value.int .i64 0, Value.bool false] 56 fun b4 h5 => 
  cutP (σ := Option Addr × Unit) (fun s h65 =>
    (fun (q : Option Addr) =>
      f_proto_reader_number (some ⟨b4, 0, none⟩) 1 (fun t66 h67 =>
        f_proto_reader_take (some ⟨b4, 0, none⟩) t66 (fun t68 h69 =>
          b2s t68 h69 fun t70 => 
          derefP q fun b71 o => 
          st h69 b71 (o + 4) (Value.string t70) fun h72 => 
          derefP q fun b73 o74 => ldI h72 b73 o74 .i64 fun t75 => ldI h72 b73 (o74 + 1) .u8 fun t76 => ldI h72 b73 (o74 + 2) .i64 fun t77 => ldI h72 b73 (o74 + 3) .i64 fun t78 => ldS h72 b73 (o74 + 4) fun t79 => ldI h72 b73 (o74 + 5) .i64 fun t80 => 
          f_proto_Right (t75, t76, t77, t78, t79, t80, ()) (fun t81 h82 =>
            f_proto_reader_ended (some ⟨b4, 0, none⟩) t81 (fun t83 t84 h85 =>
              bindI t83 fun err => 
              bindI t84 fun at_ => 
              iteP (err != 0) (
                sts h85 b1 0 [Value.int .i64 0, Value.int .u8 0, Value.int .i64 0, Value.int .i64 0, Value.string (ByteArray.mk #[]), Value.int .i64 0] fun h86 => 
                bindI err fun t87 => 
                bindI at_ fun t88 => 
                ldI h86 b1 0 .i64 fun t89 => ldI h86 b1 (0 + 1) .u8 fun t90 => ldI h86 b1 (0 + 2) .i64 fun t91 => ldI h86 b1 (0 + 3) .i64 fun t92 => ldS h86 b1 (0 + 4) fun t93 => ldI h86 b1 (0 + 5) .i64 fun t94 => K (t89, t90, t91, t92, t93, t94, ()) t87 t88 h86) (
                derefP q fun b95 o96 => ldI h85 b95 o96 .i64 fun t97 => ldI h85 b95 (o96 + 1) .u8 fun t98 => ldI h85 b95 (o96 + 2) .i64 fun t99 => ldI h85 b95 (o96 + 3) .i64 fun t100 => ldS h85 b95 (o96 + 4) fun t101 => ldI h85 b95 (o96 + 5) .i64 fun t102 => 
                sts h85 b1 0 [Value.int .i64 t97, Value.int .u8 t98, Value.int .i64 t99, Value.int .i64 t100, Value.string t101, Value.int .i64 t102] fun h103 => 
                bindI 0 fun t104 => 
                bindI 0 fun t105 => 
                ldI h103 b1 0 .i64 fun t106 => ldI h103 b1 (0 + 1) .u8 fun t107 => ldI h103 b1 (0 + 2) .i64 fun t108 => ldI h103 b1 (0 + 3) .i64 fun t109 => ldS h103 b1 (0 + 4) fun t110 => ldI h103 b1 (0 + 5) .i64 fun t111 => K (t106, t107, t108, t109, t110, t111, ()) t104 t105 h103)) h82) h72) h67) h65) s.1) (fun J6 =>
    bothP (
      f_proto_reader_number (some ⟨b4, 0, none⟩) 1 (fun t7 h8 =>
        bothP (
          f_proto_reader_number (some ⟨b4, 0, none⟩) 8 (fun t9 h10 =>
            bothP (
              f_proto_reader_number (some ⟨b4, 0, none⟩) 8 (fun t11 h12 =>
                bothP (
                  f_proto_reader_number (some ⟨b4, 0, none⟩) 8 (fun t13 h14 =>
                    bothP (
                      f_proto_reader_number (some ⟨b4, 0, none⟩) 8 (fun t15 h16 =>
                        newC h16 [Value.int .i64 0, Value.int .u8 0, Value.int .i64 0, Value.int .i64 0, Value.string (ByteArray.mk #[]), Value.int .i64 0] 26 fun b17 h18 => 
                        sts h18 b17 0 [Value.int .i64 t9, Value.int .u8 (IntKind.wrap .u8 t7), Value.int .i64 t11, Value.int .i64 t13, Value.string (ByteArray.mk #[]), Value.int .i64 t15] fun h19 => 
                        J6 (some ⟨b17, 0, none⟩, ()) h19) h14) (
                      newC h14 [Value.int .i64 0, Value.int .u8 0, Value.int .i64 0, Value.int .i64 0, Value.string (ByteArray.mk #[]), Value.int .i64 0] 26 fun b20 h21 => 
                      f_proto_reader_number (some ⟨b4, 0, none⟩) 8 (fun t22 h23 =>
                        sts h23 b20 0 [Value.int .i64 t9, Value.int .u8 (IntKind.wrap .u8 t7), Value.int .i64 t11, Value.int .i64 t13, Value.string (ByteArray.mk #[]), Value.int .i64 t22] fun h24 => 
                        J6 (some ⟨b20, 0, none⟩, ()) h24) h21)) h12) (
                  newC h12 [Value.int .i64 0, Value.int .u8 0, Value.int .i64 0, Value.int .i64 0, Value.string (ByteArray.mk #[]), Value.int .i64 0] 26 fun b25 h26 => 
                  f_proto_reader_number (some ⟨b4, 0, none⟩) 8 (fun t27 h28 =>
                    f_proto_reader_number (some ⟨b4, 0, none⟩) 8 (fun t29 h30 =>
                      sts h30 b25 0 [Value.int .i64 t9, Value.int .u8 (IntKind.wrap .u8 t7), Value.int .i64 t11, Value.int .i64 t27, Value.string (ByteArray.mk #[]), Value.int .i64 t29] fun h31 => 
                      J6 (some ⟨b25, 0, none⟩, ()) h31) h28) h26)) h10) (
              newC h10 [Value.int .i64 0, Value.int .u8 0, Value.int .i64 0, Value.int .i64 0, Value.string (ByteArray.mk #[]), Value.int .i64 0] 26 fun b32 h33 => 
              f_proto_reader_number (some ⟨b4, 0, none⟩) 8 (fun t34 h35 =>
                f_proto_reader_number (some ⟨b4, 0, none⟩) 8 (fun t36 h37 =>
                  f_proto_reader_number (some ⟨b4, 0, none⟩) 8 (fun t38 h39 =>
                    sts h39 b32 0 [Value.int .i64 t9, Value.int .u8 (IntKind.wrap .u8 t7), Value.int .i64 t34, Value.int .i64 t36, Value.string (ByteArray.mk #[]), Value.int .i64 t38] fun h40 => 
                    J6 (some ⟨b32, 0, none⟩, ()) h40) h37) h35) h33)) h8) (
          newC h8 [Value.int .i64 0, Value.int .u8 0, Value.int .i64 0, Value.int .i64 0, Value.string (ByteArray.mk #[]), Value.int .i64 0] 26 fun b41 h42 => 
          f_proto_reader_number (some ⟨b4, 0, none⟩) 8 (fun t43 h44 =>
            f_proto_reader_number (some ⟨b4, 0, none⟩) 8 (fun t45 h46 =>
              f_proto_reader_number (some ⟨b4, 0, none⟩) 8 (fun t47 h48 =>
                f_proto_reader_number (some ⟨b4, 0, none⟩) 8 (fun t49 h50 =>
                  sts h50 b41 0 [Value.int .i64 t43, Value.int .u8 (IntKind.wrap .u8 t7), Value.int .i64 t45, Value.int .i64 t47, Value.string (ByteArray.mk #[]), Value.int .i64 t49] fun h51 => 
                  J6 (some ⟨b41, 0, none⟩, ()) h51) h48) h46) h44) h42)) h5) (
      newC h5 [Value.int .i64 0, Value.int .u8 0, Value.int .i64 0, Value.int .i64 0, Value.string (ByteArray.mk #[]), Value.int .i64 0] 26 fun b52 h53 => 
      f_proto_reader_number (some ⟨b4, 0, none⟩) 1 (fun t54 h55 =>
        f_proto_reader_number (some ⟨b4, 0, none⟩) 8 (fun t56 h57 =>
          f_proto_reader_number (some ⟨b4, 0, none⟩) 8 (fun t58 h59 =>
            f_proto_reader_number (some ⟨b4, 0, none⟩) 8 (fun t60 h61 =>
              f_proto_reader_number (some ⟨b4, 0, none⟩) 8 (fun t62 h63 =>
                sts h63 b52 0 [Value.int .i64 t56, Value.int .u8 (IntKind.wrap .u8 t54), Value.int .i64 t58, Value.int .i64 t60, Value.string (ByteArray.mk #[]), Value.int .i64 t62] fun h64 => 
                J6 (some ⟨b52, 0, none⟩, ()) h64) h61) h59) h57) h55) h53))

def m_proto_ReadRequest (b : Sl) (K : (Int × Int × Int × Int × ByteArray × Int × Unit) → Int → Int → Heap → Prop) (h : Heap) : Prop := g_proto_ReadRequest m_proto_reader_number m_proto_reader_take m_proto_Right m_proto_reader_ended b K h

/-- spillwayref19.number -/
def g_spillwayref19_number (b : Sl) (K : Int → Heap → Prop) (h : Heap) : Prop :=
  bindI 0 fun t => 
  bindI 0 fun n => 
  bindI 0 fun i => 
  loopM (σ := Int × Int × Unit) (fun J3 s h4 =>
    (fun (n1 : Int) (i2 : Int) =>
      iteP (decide (i2 < 8)) (
        need (0 ≤ (8 : Int)) <| 
        idxA b.ptr b.len i2 1 fun b5 o => 
        ldI h4 b5 o .u8 fun t6 => 
        bindI (orV .i64 (shlV .i64 n1 8) (IntKind.wrap .i64 t6)) fun n7 => 
        bindI (IntKind.wrap .i64 (i2 + 1)) fun i8 => 
        J3 (n7, i8, ()) h4) (
        bindI n1 fun t9 => 
        K t9 h4)) s.1 s.2.1) (n, i, ()) h

def m_spillwayref19_number (b : Sl) (K : Int → Heap → Prop) (h : Heap) : Prop := g_spillwayref19_number b K h

/-- spillwayref19.in -/
def g_spillwayref19_in (n : Int) (lo : Int) (hi : Int) (K : Bool → Heap → Prop) (h : Heap) : Prop :=
  iteP (decide (n ≥ lo)) (
    bindB (decide (n ≤ hi)) fun t => 
    K t h) (
    K false h)

def m_spillwayref19_in (n : Int) (lo : Int) (hi : Int) (K : Bool → Heap → Prop) (h : Heap) : Prop := g_spillwayref19_in n lo hi K h

/-- spillwayref07.IsName -/
def g_spillwayref07_IsName (s : ByteArray) (K : Bool → Heap → Prop) (h : Heap) : Prop :=
  iteP (decide ((s.size : Int) < 1)) (
    K false h) (
    iteP (decide ((s.size : Int) > 64)) (
      K false h) (
      bindI 0 fun i => 
      loopM (σ := Int × Unit) (fun J2 s3 h4 =>
        (fun (i1 : Int) =>
          iteP (decide (i1 < (s.size : Int))) (
            idxS s i1 fun t => 
            iteP (decide (t < 33)) (
              K false h4) (
              idxS s i1 fun t5 => 
              iteP (decide (t5 > 126)) (
                K false h4) (
                bindI (IntKind.wrap .i64 (i1 + 1)) fun i6 => 
                J2 (i6, ()) h4))) (
            K true h4)) s3.1) (i, ()) h))

def m_spillwayref07_IsName (s : ByteArray) (K : Bool → Heap → Prop) (h : Heap) : Prop := g_spillwayref07_IsName s K h

/-- spillwayref19.Right -/
def g_spillwayref19_Right (f_spillwayref19_in : Int → Int → Int → (Bool → Heap → Prop) → Heap → Prop) (f_spillwayref07_IsName : ByteArray → (Bool → Heap → Prop) → Heap → Prop) (r : Int × Int × Int × Int × ByteArray × Int × Unit) (K : Bool → Heap → Prop) (h : Heap) : Prop :=
  newC h [Value.int .i64 r.1, Value.int .u8 r.2.1, Value.int .i64 r.2.2.1, Value.int .i64 r.2.2.2.1, Value.string r.2.2.2.2.1, Value.int .i64 r.2.2.2.2.2.1] 26 fun b h1 => 
  cutP (σ := Bool × Unit) (fun s h9 =>
    (fun (flow8 : Bool) =>
      cutP (σ := Bool × Unit) (fun s14 h15 =>
        (fun (none13 : Bool) =>
          ldI h15 b 0 .i64 fun t16 => 
          f_spillwayref19_in t16 0 2147483647 (fun t17 h18 =>
            iteP (!t17) (
              K false h18) (
              ldI h18 b (0 + 1) .u8 fun t19 => 
              cutP (σ := Bool × Unit) (fun s23 h24 =>
                (fun (s27 : Bool) =>
                  iteP s27 (
                    iteP flow8 (
                      ldS h24 b (0 + 4) fun t25 => 
                      iteP (strEq t25 (ByteArray.mk #[])) (
                        ldI h24 b (0 + 5) .i64 fun t26 => 
                        bindB (t26 == 0) fun t27 => 
                        K t27 h24) (
                        K false h24)) (
                      K false h24)) (
                    bindB (t19 == 2) fun t28 => 
                    iteP t28 (
                      iteP flow8 (
                        ldS h24 b (0 + 4) fun t29 => 
                        iteP (decide ((t29.size : Int) ≤ 64)) (
                          ldI h24 b (0 + 5) .i64 fun t30 => 
                          bindB (t30 == 0) fun t31 => 
                          K t31 h24) (
                          K false h24)) (
                        K false h24)) (
                      bindB (t19 == 4) fun t32 => 
                      iteP t32 (
                        iteP none13 (
                          ldS h24 b (0 + 4) fun t33 => 
                          iteP (strEq t33 (ByteArray.mk #[])) (
                            ldI h24 b (0 + 5) .i64 fun t34 => 
                            f_spillwayref19_in t34 1 2147483647 (fun t35 h36 =>
                              bindB t35 fun t37 => 
                              K t37 h36) h24) (
                            K false h24)) (
                          K false h24)) (
                        bindB (t19 == 5) fun t38 => 
                        iteP t38 (
                          iteP none13 (
                            ldS h24 b (0 + 4) fun t39 => 
                            f_spillwayref07_IsName t39 (fun t40 h41 =>
                              iteP t40 (
                                ldI h41 b (0 + 5) .i64 fun t42 => 
                                bindB (t42 == 0) fun t43 => 
                                K t43 h41) (
                                K false h41)) h24) (
                            K false h24)) (
                          K false h24))))) s23.1) (fun J20 =>
                bindB (t19 == 1) fun t21 => 
                iteP t21 (
                  J20 (t21, ()) h18) (
                  bindB (t19 == 3) fun t22 => 
                  J20 (t22, ()) h18)))) h15) s14.1) (fun J10 =>
        ldI h9 b (0 + 2) .i64 fun t11 => 
        iteP (t11 == 0) (
          ldI h9 b (0 + 3) .i64 fun t12 => 
          bindB (t12 == 0) fun none => 
          J10 (none, ()) h9) (
          J10 (false, ()) h9))) s.1) (fun J2 =>
    ldI h1 b (0 + 2) .i64 fun t => 
    f_spillwayref19_in t 1 1099511627776 (fun t3 h4 =>
      iteP t3 (
        ldI h4 b (0 + 3) .i64 fun t5 => 
        f_spillwayref19_in t5 1 1099511627776 (fun t6 h7 =>
          bindB t6 fun flow => 
          J2 (flow, ()) h7) h4) (
        J2 (false, ()) h4)) h1)

def m_spillwayref19_Right (r : Int × Int × Int × Int × ByteArray × Int × Unit) (K : Bool → Heap → Prop) (h : Heap) : Prop := g_spillwayref19_Right m_spillwayref19_in m_spillwayref07_IsName r K h

/-- spillwayref19.ReadRequest -/
def g_spillwayref19_ReadRequest (f_spillwayref19_number : Sl → (Int → Heap → Prop) → Heap → Prop) (f_spillwayref19_Right : (Int × Int × Int × Int × ByteArray × Int × Unit) → (Bool → Heap → Prop) → Heap → Prop) (b : Sl) (K : (Int × Int × Int × Int × ByteArray × Int × Unit) → Int → Int → Heap → Prop) (h : Heap) : Prop :=
  newC h [Value.int .i64 0, Value.int .u8 0, Value.int .i64 0, Value.int .i64 0, Value.string (ByteArray.mk #[]), Value.int .i64 0] 26 fun b1 h2 => 
  bindI 0 fun t => 
  bindI 0 fun t3 => 
  iteP (decide ((b.len : Int) < 34)) (
    sts h2 b1 0 [Value.int .i64 0, Value.int .u8 0, Value.int .i64 0, Value.int .i64 0, Value.string (ByteArray.mk #[]), Value.int .i64 0] fun h4 => 
    bindI 6 fun t5 => 
    bindI (b.len : Int) fun t6 => 
    ldI h4 b1 0 .i64 fun t7 => ldI h4 b1 (0 + 1) .u8 fun t8 => ldI h4 b1 (0 + 2) .i64 fun t9 => ldI h4 b1 (0 + 3) .i64 fun t10 => ldS h4 b1 (0 + 4) fun t11 => ldI h4 b1 (0 + 5) .i64 fun t12 => K (t7, t8, t9, t10, t11, t12, ()) t5 t6 h4) (
    idxA b.ptr b.len 33 1 fun b13 o => 
    ldI h2 b13 o .u8 fun t14 => 
    iteP (decide ((b.len : Int) < (IntKind.wrap .i64 ((34 : Int) + (IntKind.wrap .i64 t14))))) (
      sts h2 b1 0 [Value.int .i64 0, Value.int .u8 0, Value.int .i64 0, Value.int .i64 0, Value.string (ByteArray.mk #[]), Value.int .i64 0] fun h15 => 
      bindI 6 fun t16 => 
      bindI (b.len : Int) fun t17 => 
      ldI h15 b1 0 .i64 fun t18 => ldI h15 b1 (0 + 1) .u8 fun t19 => ldI h15 b1 (0 + 2) .i64 fun t20 => ldI h15 b1 (0 + 3) .i64 fun t21 => ldS h15 b1 (0 + 4) fun t22 => ldI h15 b1 (0 + 5) .i64 fun t23 => K (t18, t19, t20, t21, t22, t23, ()) t16 t17 h15) (
      idxA b.ptr b.len 33 1 fun b24 o25 => 
      ldI h2 b24 o25 .u8 fun t26 => 
      bindI (IntKind.wrap .i64 ((34 : Int) + (IntKind.wrap .i64 t26))) fun n => 
      iteP (decide ((b.len : Int) > n)) (
        sts h2 b1 0 [Value.int .i64 0, Value.int .u8 0, Value.int .i64 0, Value.int .i64 0, Value.string (ByteArray.mk #[]), Value.int .i64 0] fun h27 => 
        bindI 6 fun t28 => 
        bindI n fun t29 => 
        ldI h27 b1 0 .i64 fun t30 => ldI h27 b1 (0 + 1) .u8 fun t31 => ldI h27 b1 (0 + 2) .i64 fun t32 => ldI h27 b1 (0 + 3) .i64 fun t33 => ldS h27 b1 (0 + 4) fun t34 => ldI h27 b1 (0 + 5) .i64 fun t35 => K (t30, t31, t32, t33, t34, t35, ()) t28 t29 h27) (
        cutP (σ := Option Addr × Unit) (fun s h89 =>
          (fun (r : Option Addr) =>
            derefP r fun b90 o91 => ldI h89 b90 o91 .i64 fun t92 => ldI h89 b90 (o91 + 1) .u8 fun t93 => ldI h89 b90 (o91 + 2) .i64 fun t94 => ldI h89 b90 (o91 + 3) .i64 fun t95 => ldS h89 b90 (o91 + 4) fun t96 => ldI h89 b90 (o91 + 5) .i64 fun t97 => 
            f_spillwayref19_Right (t92, t93, t94, t95, t96, t97, ()) (fun t98 h99 =>
              iteP (!t98) (
                sts h99 b1 0 [Value.int .i64 0, Value.int .u8 0, Value.int .i64 0, Value.int .i64 0, Value.string (ByteArray.mk #[]), Value.int .i64 0] fun h100 => 
                bindI 6 fun t101 => 
                bindI 0 fun t102 => 
                ldI h100 b1 0 .i64 fun t103 => ldI h100 b1 (0 + 1) .u8 fun t104 => ldI h100 b1 (0 + 2) .i64 fun t105 => ldI h100 b1 (0 + 3) .i64 fun t106 => ldS h100 b1 (0 + 4) fun t107 => ldI h100 b1 (0 + 5) .i64 fun t108 => K (t103, t104, t105, t106, t107, t108, ()) t101 t102 h100) (
                derefP r fun b109 o110 => ldI h99 b109 o110 .i64 fun t111 => ldI h99 b109 (o110 + 1) .u8 fun t112 => ldI h99 b109 (o110 + 2) .i64 fun t113 => ldI h99 b109 (o110 + 3) .i64 fun t114 => ldS h99 b109 (o110 + 4) fun t115 => ldI h99 b109 (o110 + 5) .i64 fun t116 => 
                sts h99 b1 0 [Value.int .i64 t111, Value.int .u8 t112, Value.int .i64 t113, Value.int .i64 t114, Value.string t115, Value.int .i64 t116] fun h117 => 
                bindI 0 fun t118 => 
                bindI 0 fun t119 => 
                ldI h117 b1 0 .i64 fun t120 => ldI h117 b1 (0 + 1) .u8 fun t121 => ldI h117 b1 (0 + 2) .i64 fun t122 => ldI h117 b1 (0 + 3) .i64 fun t123 => ldS h117 b1 (0 + 4) fun t124 => ldI h117 b1 (0 + 5) .i64 fun t125 => K (t120, t121, t122, t123, t124, t125, ()) t118 t119 h117)) h89) s.1) (fun J36 =>
          idxA b.ptr b.len 0 1 fun b37 o38 => 
          slc b.ptr b.cap 1 1 b.len b.cap fun t39 => 
          slc b.ptr b.cap 1 9 b.len b.cap fun t40 => 
          slc b.ptr b.cap 1 17 b.len b.cap fun t41 => 
          slc b.ptr b.cap 1 25 b.len b.cap fun t42 => 
          slc b.ptr b.cap 1 34 b.len b.cap fun t43 => 
          ldI h2 b37 o38 .u8 fun t44 => 
          b2s t43 h2 fun t45 => 
          bothP (
            f_spillwayref19_number t39 (fun t46 h47 =>
              need (b2s t43 h47 fun s => s = t45) <|
              need (heldL h47 [(b37, o38, Value.int .u8 t44)]) <|
              bothP (
                f_spillwayref19_number t40 (fun t48 h49 =>
                  need (b2s t43 h49 fun s => s = t45) <|
                  need (heldL h49 [(b37, o38, Value.int .u8 t44)]) <|
                  bothP (
                    f_spillwayref19_number t41 (fun t50 h51 =>
                      need (b2s t43 h51 fun s => s = t45) <|
                      need (heldL h51 [(b37, o38, Value.int .u8 t44)]) <|
                      bothP (
                        f_spillwayref19_number t42 (fun t52 h53 =>
                          need (b2s t43 h53 fun s => s = t45) <|
                          need (heldL h53 [(b37, o38, Value.int .u8 t44)]) <|
                          newC h53 [Value.int .i64 0, Value.int .u8 0, Value.int .i64 0, Value.int .i64 0, Value.string (ByteArray.mk #[]), Value.int .i64 0] 26 fun b54 h55 => 
                          need (b2s t43 h55 fun s => s = t45) <|
                          need (heldL h55 [(b37, o38, Value.int .u8 t44)]) <|
                          sts h55 b54 0 [Value.int .i64 t46, Value.int .u8 t44, Value.int .i64 t48, Value.int .i64 t50, Value.string t45, Value.int .i64 t52] fun h56 => 
                          J36 (some ⟨b54, 0, none⟩, ()) h56) h51) (
                        newC h51 [Value.int .i64 0, Value.int .u8 0, Value.int .i64 0, Value.int .i64 0, Value.string (ByteArray.mk #[]), Value.int .i64 0] 26 fun b57 h58 => 
                        need (b2s t43 h58 fun s => s = t45) <|
                        need (heldL h58 [(b37, o38, Value.int .u8 t44)]) <|
                        f_spillwayref19_number t42 (fun t59 h60 =>
                          need (b2s t43 h60 fun s => s = t45) <|
                          need (heldL h60 [(b37, o38, Value.int .u8 t44)]) <|
                          sts h60 b57 0 [Value.int .i64 t46, Value.int .u8 t44, Value.int .i64 t48, Value.int .i64 t50, Value.string t45, Value.int .i64 t59] fun h61 => 
                          J36 (some ⟨b57, 0, none⟩, ()) h61) h58)) h49) (
                    newC h49 [Value.int .i64 0, Value.int .u8 0, Value.int .i64 0, Value.int .i64 0, Value.string (ByteArray.mk #[]), Value.int .i64 0] 26 fun b62 h63 => 
                    need (b2s t43 h63 fun s => s = t45) <|
                    need (heldL h63 [(b37, o38, Value.int .u8 t44)]) <|
                    f_spillwayref19_number t41 (fun t64 h65 =>
                      need (b2s t43 h65 fun s => s = t45) <|
                      need (heldL h65 [(b37, o38, Value.int .u8 t44)]) <|
                      f_spillwayref19_number t42 (fun t66 h67 =>
                        need (b2s t43 h67 fun s => s = t45) <|
                        need (heldL h67 [(b37, o38, Value.int .u8 t44)]) <|
                        sts h67 b62 0 [Value.int .i64 t46, Value.int .u8 t44, Value.int .i64 t48, Value.int .i64 t64, Value.string t45, Value.int .i64 t66] fun h68 => 
                        J36 (some ⟨b62, 0, none⟩, ()) h68) h65) h63)) h47) (
                newC h47 [Value.int .i64 0, Value.int .u8 0, Value.int .i64 0, Value.int .i64 0, Value.string (ByteArray.mk #[]), Value.int .i64 0] 26 fun b69 h70 => 
                need (b2s t43 h70 fun s => s = t45) <|
                need (heldL h70 [(b37, o38, Value.int .u8 t44)]) <|
                f_spillwayref19_number t40 (fun t71 h72 =>
                  need (b2s t43 h72 fun s => s = t45) <|
                  need (heldL h72 [(b37, o38, Value.int .u8 t44)]) <|
                  f_spillwayref19_number t41 (fun t73 h74 =>
                    need (b2s t43 h74 fun s => s = t45) <|
                    need (heldL h74 [(b37, o38, Value.int .u8 t44)]) <|
                    f_spillwayref19_number t42 (fun t75 h76 =>
                      need (b2s t43 h76 fun s => s = t45) <|
                      need (heldL h76 [(b37, o38, Value.int .u8 t44)]) <|
                      sts h76 b69 0 [Value.int .i64 t46, Value.int .u8 t44, Value.int .i64 t71, Value.int .i64 t73, Value.string t45, Value.int .i64 t75] fun h77 => 
                      J36 (some ⟨b69, 0, none⟩, ()) h77) h74) h72) h70)) h2) (
            newC h2 [Value.int .i64 0, Value.int .u8 0, Value.int .i64 0, Value.int .i64 0, Value.string (ByteArray.mk #[]), Value.int .i64 0] 26 fun b78 h79 => 
            need (b2s t43 h79 fun s => s = t45) <|
            need (heldL h79 [(b37, o38, Value.int .u8 t44)]) <|
            f_spillwayref19_number t39 (fun t80 h81 =>
              need (b2s t43 h81 fun s => s = t45) <|
              need (heldL h81 [(b37, o38, Value.int .u8 t44)]) <|
              f_spillwayref19_number t40 (fun t82 h83 =>
                need (b2s t43 h83 fun s => s = t45) <|
                need (heldL h83 [(b37, o38, Value.int .u8 t44)]) <|
                f_spillwayref19_number t41 (fun t84 h85 =>
                  need (b2s t43 h85 fun s => s = t45) <|
                  need (heldL h85 [(b37, o38, Value.int .u8 t44)]) <|
                  f_spillwayref19_number t42 (fun t86 h87 =>
                    need (b2s t43 h87 fun s => s = t45) <|
                    need (heldL h87 [(b37, o38, Value.int .u8 t44)]) <|
                    sts h87 b78 0 [Value.int .i64 t80, Value.int .u8 t44, Value.int .i64 t82, Value.int .i64 t84, Value.string t45, Value.int .i64 t86] fun h88 => 
                    J36 (some ⟨b78, 0, none⟩, ()) h88) h85) h83) h81) h79)))))

def m_spillwayref19_ReadRequest (b : Sl) (K : (Int × Int × Int × Int × ByteArray × Int × Unit) → Int → Int → Heap → Prop) (h : Heap) : Prop := g_spillwayref19_ReadRequest m_spillwayref19_number m_spillwayref19_Right b K h

/-- proto.RightAnswer -/
def g_proto_RightAnswer (f_proto_from : Int → Int → Int → (Bool → Heap → Prop) → Heap → Prop) (a : Int × Int × Int × Int × Int × Unit) (K : Bool → Heap → Prop) (h : Heap) : Prop :=
  newC h [Value.int .i64 a.1, Value.int .u8 a.2.1, Value.int .i64 a.2.2.1, Value.int .i64 a.2.2.2.1, Value.int .i64 a.2.2.2.2.1] 32 fun b h1 => 
  ldI h1 b 0 .i64 fun t => 
  f_proto_from t 0 2147483647 (fun t2 h3 =>
    iteP t2 (
      ldI h3 b (0 + 1) .u8 fun t4 => 
      iteP (decide (t4 ≥ 1)) (
        ldI h3 b (0 + 1) .u8 fun t5 => 
        iteP (decide (t5 ≤ 8)) (
          ldI h3 b (0 + 2) .i64 fun t6 => 
          f_proto_from t6 0 1099511627776 (fun t7 h8 =>
            iteP t7 (
              ldI h8 b (0 + 3) .i64 fun t9 => 
              f_proto_from t9 0 1099511627776 (fun t10 h11 =>
                iteP t10 (
                  ldI h11 b (0 + 4) .i64 fun t12 => 
                  f_proto_from t12 0 2147483647 (fun t13 h14 =>
                    bindB t13 fun t15 => 
                    K t15 h14) h11) (
                  K false h11)) h8) (
              K false h8)) h3) (
          K false h3)) (
        K false h3)) (
      K false h3)) h1

def m_proto_RightAnswer (a : Int × Int × Int × Int × Int × Unit) (K : Bool → Heap → Prop) (h : Heap) : Prop := g_proto_RightAnswer m_proto_from a K h

/-- proto.ReadAnswer -/
def g_proto_ReadAnswer (f_proto_reader_number : (Option Addr) → Int → (Int → Heap → Prop) → Heap → Prop) (f_proto_RightAnswer : (Int × Int × Int × Int × Int × Unit) → (Bool → Heap → Prop) → Heap → Prop) (f_proto_reader_ended : (Option Addr) → Bool → (Int → Int → Heap → Prop) → Heap → Prop) (b : Sl) (K : (Int × Int × Int × Int × Int × Unit) → Int → Int → Heap → Prop) (h : Heap) : Prop :=
  newC h [Value.int .i64 0, Value.int .u8 0, Value.int .i64 0, Value.int .i64 0, Value.int .i64 0] 32 fun b1 h2 => 
  bindI 0 fun t => 
  bindI 0 fun t3 => 
  newC h2 [Value.slice b.ptr b.len b.cap, Value.int .i64 0, Value.bool false] 54 fun b4 h5 => 
  f_proto_reader_number (some ⟨b4, 0, none⟩) 1 (fun t6 h7 =>
    f_proto_reader_number (some ⟨b4, 0, none⟩) 8 (fun t8 h9 =>
      f_proto_reader_number (some ⟨b4, 0, none⟩) 8 (fun t10 h11 =>
        f_proto_reader_number (some ⟨b4, 0, none⟩) 8 (fun t12 h13 =>
          f_proto_reader_number (some ⟨b4, 0, none⟩) 8 (fun t14 h15 =>
            newC h15 [Value.int .i64 0, Value.int .u8 0, Value.int .i64 0, Value.int .i64 0, Value.int .i64 0] 32 fun b16 h17 => 
            sts h17 b16 0 [Value.int .i64 t8, Value.int .u8 (IntKind.wrap .u8 t6), Value.int .i64 t10, Value.int .i64 t12, Value.int .i64 t14] fun h18 => 
            ldI h18 b16 0 .i64 fun t19 => ldI h18 b16 (0 + 1) .u8 fun t20 => ldI h18 b16 (0 + 2) .i64 fun t21 => ldI h18 b16 (0 + 3) .i64 fun t22 => ldI h18 b16 (0 + 4) .i64 fun t23 => 
            f_proto_RightAnswer (t19, t20, t21, t22, t23, ()) (fun t24 h25 =>
              f_proto_reader_ended (some ⟨b4, 0, none⟩) t24 (fun t26 t27 h28 =>
                bindI t26 fun err => 
                bindI t27 fun at_ => 
                iteP (err != 0) (
                  sts h28 b1 0 [Value.int .i64 0, Value.int .u8 0, Value.int .i64 0, Value.int .i64 0, Value.int .i64 0] fun h29 => 
                  bindI err fun t30 => 
                  bindI at_ fun t31 => 
                  ldI h29 b1 0 .i64 fun t32 => ldI h29 b1 (0 + 1) .u8 fun t33 => ldI h29 b1 (0 + 2) .i64 fun t34 => ldI h29 b1 (0 + 3) .i64 fun t35 => ldI h29 b1 (0 + 4) .i64 fun t36 => K (t32, t33, t34, t35, t36, ()) t30 t31 h29) (
                  ldI h28 b16 0 .i64 fun t37 => ldI h28 b16 (0 + 1) .u8 fun t38 => ldI h28 b16 (0 + 2) .i64 fun t39 => ldI h28 b16 (0 + 3) .i64 fun t40 => ldI h28 b16 (0 + 4) .i64 fun t41 => 
                  sts h28 b1 0 [Value.int .i64 t37, Value.int .u8 t38, Value.int .i64 t39, Value.int .i64 t40, Value.int .i64 t41] fun h42 => 
                  bindI 0 fun t43 => 
                  bindI 0 fun t44 => 
                  ldI h42 b1 0 .i64 fun t45 => ldI h42 b1 (0 + 1) .u8 fun t46 => ldI h42 b1 (0 + 2) .i64 fun t47 => ldI h42 b1 (0 + 3) .i64 fun t48 => ldI h42 b1 (0 + 4) .i64 fun t49 => K (t45, t46, t47, t48, t49, ()) t43 t44 h42)) h25) h18) h13) h11) h9) h7) h5

def m_proto_ReadAnswer (b : Sl) (K : (Int × Int × Int × Int × Int × Unit) → Int → Int → Heap → Prop) (h : Heap) : Prop := g_proto_ReadAnswer m_proto_reader_number m_proto_RightAnswer m_proto_reader_ended b K h

/-- spillwayref19.RightAnswer -/
def g_spillwayref19_RightAnswer (f_spillwayref19_in : Int → Int → Int → (Bool → Heap → Prop) → Heap → Prop) (a : Int × Int × Int × Int × Int × Unit) (K : Bool → Heap → Prop) (h : Heap) : Prop :=
  newC h [Value.int .i64 a.1, Value.int .u8 a.2.1, Value.int .i64 a.2.2.1, Value.int .i64 a.2.2.2.1, Value.int .i64 a.2.2.2.2.1] 32 fun b h1 => 
  ldI h1 b 0 .i64 fun t => 
  f_spillwayref19_in t 0 2147483647 (fun t2 h3 =>
    iteP t2 (
      ldI h3 b (0 + 1) .u8 fun t4 => 
      iteP (decide (t4 ≥ 1)) (
        ldI h3 b (0 + 1) .u8 fun t5 => 
        iteP (decide (t5 ≤ 8)) (
          ldI h3 b (0 + 2) .i64 fun t6 => 
          f_spillwayref19_in t6 0 1099511627776 (fun t7 h8 =>
            iteP t7 (
              ldI h8 b (0 + 3) .i64 fun t9 => 
              f_spillwayref19_in t9 0 1099511627776 (fun t10 h11 =>
                iteP t10 (
                  ldI h11 b (0 + 4) .i64 fun t12 => 
                  f_spillwayref19_in t12 0 2147483647 (fun t13 h14 =>
                    bindB t13 fun t15 => 
                    K t15 h14) h11) (
                  K false h11)) h8) (
              K false h8)) h3) (
          K false h3)) (
        K false h3)) (
      K false h3)) h1

def m_spillwayref19_RightAnswer (a : Int × Int × Int × Int × Int × Unit) (K : Bool → Heap → Prop) (h : Heap) : Prop := g_spillwayref19_RightAnswer m_spillwayref19_in a K h

/-- spillwayref19.ReadAnswer -/
def g_spillwayref19_ReadAnswer (f_spillwayref19_number : Sl → (Int → Heap → Prop) → Heap → Prop) (f_spillwayref19_RightAnswer : (Int × Int × Int × Int × Int × Unit) → (Bool → Heap → Prop) → Heap → Prop) (b : Sl) (K : (Int × Int × Int × Int × Int × Unit) → Int → Int → Heap → Prop) (h : Heap) : Prop :=
  newC h [Value.int .i64 0, Value.int .u8 0, Value.int .i64 0, Value.int .i64 0, Value.int .i64 0] 32 fun b1 h2 => 
  bindI 0 fun t => 
  bindI 0 fun t3 => 
  iteP (decide ((b.len : Int) < 33)) (
    sts h2 b1 0 [Value.int .i64 0, Value.int .u8 0, Value.int .i64 0, Value.int .i64 0, Value.int .i64 0] fun h4 => 
    bindI 6 fun t5 => 
    bindI (b.len : Int) fun t6 => 
    ldI h4 b1 0 .i64 fun t7 => ldI h4 b1 (0 + 1) .u8 fun t8 => ldI h4 b1 (0 + 2) .i64 fun t9 => ldI h4 b1 (0 + 3) .i64 fun t10 => ldI h4 b1 (0 + 4) .i64 fun t11 => K (t7, t8, t9, t10, t11, ()) t5 t6 h4) (
    iteP (decide ((b.len : Int) > 33)) (
      sts h2 b1 0 [Value.int .i64 0, Value.int .u8 0, Value.int .i64 0, Value.int .i64 0, Value.int .i64 0] fun h12 => 
      bindI 6 fun t13 => 
      bindI 33 fun t14 => 
      ldI h12 b1 0 .i64 fun t15 => ldI h12 b1 (0 + 1) .u8 fun t16 => ldI h12 b1 (0 + 2) .i64 fun t17 => ldI h12 b1 (0 + 3) .i64 fun t18 => ldI h12 b1 (0 + 4) .i64 fun t19 => K (t15, t16, t17, t18, t19, ()) t13 t14 h12) (
      cutP (σ := Option Addr × Unit) (fun s h70 =>
        (fun (a : Option Addr) =>
          derefP a fun b71 o72 => ldI h70 b71 o72 .i64 fun t73 => ldI h70 b71 (o72 + 1) .u8 fun t74 => ldI h70 b71 (o72 + 2) .i64 fun t75 => ldI h70 b71 (o72 + 3) .i64 fun t76 => ldI h70 b71 (o72 + 4) .i64 fun t77 => 
          f_spillwayref19_RightAnswer (t73, t74, t75, t76, t77, ()) (fun t78 h79 =>
            iteP (!t78) (
              sts h79 b1 0 [Value.int .i64 0, Value.int .u8 0, Value.int .i64 0, Value.int .i64 0, Value.int .i64 0] fun h80 => 
              bindI 6 fun t81 => 
              bindI 0 fun t82 => 
              ldI h80 b1 0 .i64 fun t83 => ldI h80 b1 (0 + 1) .u8 fun t84 => ldI h80 b1 (0 + 2) .i64 fun t85 => ldI h80 b1 (0 + 3) .i64 fun t86 => ldI h80 b1 (0 + 4) .i64 fun t87 => K (t83, t84, t85, t86, t87, ()) t81 t82 h80) (
              derefP a fun b88 o89 => ldI h79 b88 o89 .i64 fun t90 => ldI h79 b88 (o89 + 1) .u8 fun t91 => ldI h79 b88 (o89 + 2) .i64 fun t92 => ldI h79 b88 (o89 + 3) .i64 fun t93 => ldI h79 b88 (o89 + 4) .i64 fun t94 => 
              sts h79 b1 0 [Value.int .i64 t90, Value.int .u8 t91, Value.int .i64 t92, Value.int .i64 t93, Value.int .i64 t94] fun h95 => 
              bindI 0 fun t96 => 
              bindI 0 fun t97 => 
              ldI h95 b1 0 .i64 fun t98 => ldI h95 b1 (0 + 1) .u8 fun t99 => ldI h95 b1 (0 + 2) .i64 fun t100 => ldI h95 b1 (0 + 3) .i64 fun t101 => ldI h95 b1 (0 + 4) .i64 fun t102 => K (t98, t99, t100, t101, t102, ()) t96 t97 h95)) h70) s.1) (fun J20 =>
        idxA b.ptr b.len 0 1 fun b21 o => 
        slc b.ptr b.cap 1 1 b.len b.cap fun t22 => 
        slc b.ptr b.cap 1 9 b.len b.cap fun t23 => 
        slc b.ptr b.cap 1 17 b.len b.cap fun t24 => 
        slc b.ptr b.cap 1 25 b.len b.cap fun t25 => 
        ldI h2 b21 o .u8 fun t26 => 
        bothP (
          f_spillwayref19_number t22 (fun t27 h28 =>
            need (heldL h28 [(b21, o, Value.int .u8 t26)]) <|
            bothP (
              f_spillwayref19_number t23 (fun t29 h30 =>
                need (heldL h30 [(b21, o, Value.int .u8 t26)]) <|
                bothP (
                  f_spillwayref19_number t24 (fun t31 h32 =>
                    need (heldL h32 [(b21, o, Value.int .u8 t26)]) <|
                    bothP (
                      f_spillwayref19_number t25 (fun t33 h34 =>
                        need (heldL h34 [(b21, o, Value.int .u8 t26)]) <|
                        newC h34 [Value.int .i64 0, Value.int .u8 0, Value.int .i64 0, Value.int .i64 0, Value.int .i64 0] 32 fun b35 h36 => 
                        need (heldL h36 [(b21, o, Value.int .u8 t26)]) <|
                        sts h36 b35 0 [Value.int .i64 t27, Value.int .u8 t26, Value.int .i64 t29, Value.int .i64 t31, Value.int .i64 t33] fun h37 => 
                        J20 (some ⟨b35, 0, none⟩, ()) h37) h32) (
                      newC h32 [Value.int .i64 0, Value.int .u8 0, Value.int .i64 0, Value.int .i64 0, Value.int .i64 0] 32 fun b38 h39 => 
                      need (heldL h39 [(b21, o, Value.int .u8 t26)]) <|
                      f_spillwayref19_number t25 (fun t40 h41 =>
                        need (heldL h41 [(b21, o, Value.int .u8 t26)]) <|
                        sts h41 b38 0 [Value.int .i64 t27, Value.int .u8 t26, Value.int .i64 t29, Value.int .i64 t31, Value.int .i64 t40] fun h42 => 
                        J20 (some ⟨b38, 0, none⟩, ()) h42) h39)) h30) (
                  newC h30 [Value.int .i64 0, Value.int .u8 0, Value.int .i64 0, Value.int .i64 0, Value.int .i64 0] 32 fun b43 h44 => 
                  need (heldL h44 [(b21, o, Value.int .u8 t26)]) <|
                  f_spillwayref19_number t24 (fun t45 h46 =>
                    need (heldL h46 [(b21, o, Value.int .u8 t26)]) <|
                    f_spillwayref19_number t25 (fun t47 h48 =>
                      need (heldL h48 [(b21, o, Value.int .u8 t26)]) <|
                      sts h48 b43 0 [Value.int .i64 t27, Value.int .u8 t26, Value.int .i64 t29, Value.int .i64 t45, Value.int .i64 t47] fun h49 => 
                      J20 (some ⟨b43, 0, none⟩, ()) h49) h46) h44)) h28) (
              newC h28 [Value.int .i64 0, Value.int .u8 0, Value.int .i64 0, Value.int .i64 0, Value.int .i64 0] 32 fun b50 h51 => 
              need (heldL h51 [(b21, o, Value.int .u8 t26)]) <|
              f_spillwayref19_number t23 (fun t52 h53 =>
                need (heldL h53 [(b21, o, Value.int .u8 t26)]) <|
                f_spillwayref19_number t24 (fun t54 h55 =>
                  need (heldL h55 [(b21, o, Value.int .u8 t26)]) <|
                  f_spillwayref19_number t25 (fun t56 h57 =>
                    need (heldL h57 [(b21, o, Value.int .u8 t26)]) <|
                    sts h57 b50 0 [Value.int .i64 t27, Value.int .u8 t26, Value.int .i64 t52, Value.int .i64 t54, Value.int .i64 t56] fun h58 => 
                    J20 (some ⟨b50, 0, none⟩, ()) h58) h55) h53) h51)) h2) (
          newC h2 [Value.int .i64 0, Value.int .u8 0, Value.int .i64 0, Value.int .i64 0, Value.int .i64 0] 32 fun b59 h60 => 
          need (heldL h60 [(b21, o, Value.int .u8 t26)]) <|
          f_spillwayref19_number t22 (fun t61 h62 =>
            need (heldL h62 [(b21, o, Value.int .u8 t26)]) <|
            f_spillwayref19_number t23 (fun t63 h64 =>
              need (heldL h64 [(b21, o, Value.int .u8 t26)]) <|
              f_spillwayref19_number t24 (fun t65 h66 =>
                need (heldL h66 [(b21, o, Value.int .u8 t26)]) <|
                f_spillwayref19_number t25 (fun t67 h68 =>
                  need (heldL h68 [(b21, o, Value.int .u8 t26)]) <|
                  sts h68 b59 0 [Value.int .i64 t61, Value.int .u8 t26, Value.int .i64 t63, Value.int .i64 t65, Value.int .i64 t67] fun h69 => 
                  J20 (some ⟨b59, 0, none⟩, ()) h69) h66) h64) h62) h60))))

def m_spillwayref19_ReadAnswer (b : Sl) (K : (Int × Int × Int × Int × Int × Unit) → Int → Int → Heap → Prop) (h : Heap) : Prop := g_spillwayref19_ReadAnswer m_spillwayref19_number m_spillwayref19_RightAnswer b K h

/-- (*proto.writer).numbers -/
def g_proto_writer_numbers (w : Option Addr) (l : Sl) (K : Heap → Prop) (h : Heap) : Prop :=
  loopM (σ := Int × Unit) (fun J1 s h2 =>
    (fun (s9 : Int) =>
      iteP (decide (s9 < (l.len : Int))) (
        idxA l.ptr l.len s9 1 fun b o => 
        ldI h2 b o .i64 fun t => 
        bindI t fun n => 
        bindI 56 fun shift => 
        loopM (σ := Int × Unit) (fun J4 s5 h6 =>
          (fun (shift3 : Int) =>
            iteP (decide (shift3 ≥ 0)) (
              derefP w fun b7 o8 => 
              need (0 ≤ shift3) <| 
              ldL h6 b7 o8 fun t9 => 
              newC h6 [Value.int .u8 (IntKind.wrap .u8 (shrV .i64 n shift3))] 5 fun b10 h11 => 
              need (heldL h11 [(b7, o8, Value.slice t9.ptr t9.len t9.cap)]) <|
              rdS ⟨some ⟨b10, 0, none⟩, 1, 1⟩ 1 h11 fun new => app 5 1 1 [Value.int .u8 0] t9 1 new h11 fun t12 h13 => 
              derefP w fun b14 o15 => 
              st h13 b14 o15 (Value.slice t12.ptr t12.len t12.cap) fun h16 => 
              bindI (IntKind.wrap .i64 (shift3 - 8)) fun shift17 => 
              J4 (shift17, ()) h16) (
              J1 (IntKind.wrap .i64 (s9 + 1), ()) h6)) s5.1) (shift, ()) h2) (
        K h2)) s.1) (0, ()) h

def m_proto_writer_numbers (w : Option Addr) (l : Sl) (K : Heap → Prop) (h : Heap) : Prop := g_proto_writer_numbers w l K h

/-- proto.Request -/
def g_proto_Request (f_proto_Right : (Int × Int × Int × Int × ByteArray × Int × Unit) → (Bool → Heap → Prop) → Heap → Prop) (f_proto_writer_numbers : (Option Addr) → Sl → (Heap → Prop) → Heap → Prop) (r : Int × Int × Int × Int × ByteArray × Int × Unit) (K : Sl → Int → Heap → Prop) (h : Heap) : Prop :=
  newC h [Value.int .i64 r.1, Value.int .u8 r.2.1, Value.int .i64 r.2.2.1, Value.int .i64 r.2.2.2.1, Value.string r.2.2.2.2.1, Value.int .i64 r.2.2.2.2.2.1] 26 fun b h1 => 
  bindI 0 fun t => 
  ldI h1 b 0 .i64 fun t2 => ldI h1 b (0 + 1) .u8 fun t3 => ldI h1 b (0 + 2) .i64 fun t4 => ldI h1 b (0 + 3) .i64 fun t5 => ldS h1 b (0 + 4) fun t6 => ldI h1 b (0 + 5) .i64 fun t7 => 
  f_proto_Right (t2, t3, t4, t5, t6, t7, ()) (fun t8 h9 =>
    iteP (!t8) (
      bindI 6 fun t10 => 
      K ⟨none, 0, 0⟩ t10 h9) (
      ldI h9 b (0 + 1) .u8 fun t11 => 
      newC h9 [Value.int .u8 t11] 5 fun b12 h13 => 
      newC h13 [Value.slice none 0 0] 64 fun b14 h15 => 
      sts h15 b14 0 [Value.slice (some ⟨b12, 0, none⟩) 1 1] fun h16 => 
      ldI h16 b 0 .i64 fun t17 => 
      ldI h16 b (0 + 2) .i64 fun t18 => 
      ldI h16 b (0 + 3) .i64 fun t19 => 
      ldI h16 b (0 + 5) .i64 fun t20 => 
      newC h16 [Value.int .i64 t17, Value.int .i64 t18, Value.int .i64 t19, Value.int .i64 t20] 3 fun b21 h22 => 
      f_proto_writer_numbers (some ⟨b14, 0, none⟩) ⟨some ⟨b21, 0, none⟩, 4, 4⟩ (fun h23 =>
        ldL h23 b14 0 fun t24 => 
        ldS h23 b (0 + 4) fun t25 => 
        ldS h23 b (0 + 4) fun t26 => 
        newC h23 [Value.int .u8 (IntKind.wrap .u8 (t25.size : Int))] 5 fun b27 h28 => 
        need (heldL h28 [(b, 0 + 4, Value.string t26)]) <|
        need (heldL h28 [(b, 0 + 4, Value.string t25)]) <|
        need (heldL h28 [(b14, 0, Value.slice t24.ptr t24.len t24.cap)]) <|
        rdS ⟨some ⟨b27, 0, none⟩, 1, 1⟩ 1 h28 fun new => app 5 1 1 [Value.int .u8 0] t24 1 new h28 fun t29 h30 => 
        need (heldL h30 [(b, 0 + 4, Value.string t26)]) <|
        need (heldL h30 [(b, 0 + 4, Value.string t25)]) <|
        app 5 1 1 [Value.int .u8 0] t29 t26.size (byteVals t26) h30 fun t31 h32 => 
        need (heldL h32 [(b, 0 + 4, Value.string t25)]) <|
        bindI 0 fun t33 => 
        K t31 t33 h32) h22)) h1

def m_proto_Request (r : Int × Int × Int × Int × ByteArray × Int × Unit) (K : Sl → Int → Heap → Prop) (h : Heap) : Prop := g_proto_Request m_proto_Right m_proto_writer_numbers r K h

/-- spillwaylaw19.live -/
def g_spillwaylaw19_live (f_proto_Request : (Int × Int × Int × Int × ByteArray × Int × Unit) → (Sl → Int → Heap → Prop) → Heap → Prop) (f_proto_ReadRequest : Sl → ((Int × Int × Int × Int × ByteArray × Int × Unit) → Int → Int → Heap → Prop) → Heap → Prop) (K : Bool → Heap → Prop) (h : Heap) : Prop :=
  f_proto_Request (1, 4, 0, 0, ByteArray.mk #[], 7, ()) (fun t t1 h2 =>
    bindI t1 fun e => 
    f_proto_ReadRequest t (fun t3 t4 t5 h6 =>
      newC h6 [Value.int .i64 0, Value.int .u8 0, Value.int .i64 0, Value.int .i64 0, Value.string (ByteArray.mk #[]), Value.int .i64 0] 26 fun b h7 => 
      sts h7 b 0 [Value.int .i64 t3.1, Value.int .u8 t3.2.1, Value.int .i64 t3.2.2.1, Value.int .i64 t3.2.2.2.1, Value.string t3.2.2.2.2.1, Value.int .i64 t3.2.2.2.2.2.1] fun h8 => 
      bindI t4 fun f => 
      bindI t5 fun at_ => 
      iteP (e == 0) (
        iteP ((t.len : Int) == 34) (
          idxA t.ptr t.len 0 1 fun b9 o => 
          ldI h8 b9 o .u8 fun t10 => 
          iteP (t10 == 4) (
            idxA t.ptr t.len 8 1 fun b11 o12 => 
            ldI h8 b11 o12 .u8 fun t13 => 
            iteP (t13 == 1) (
              idxA t.ptr t.len 32 1 fun b14 o15 => 
              ldI h8 b14 o15 .u8 fun t16 => 
              iteP (t16 == 7) (
                iteP (f == 0) (
                  iteP (at_ == 0) (
                    ldI h8 b (0 + 5) .i64 fun t17 => 
                    bindB (t17 == 7) fun t18 => 
                    K t18 h8) (
                    K false h8)) (
                  K false h8)) (
                K false h8)) (
              K false h8)) (
            K false h8)) (
          K false h8)) (
        K false h8)) h2) h

def m_spillwaylaw19_live (K : Bool → Heap → Prop) (h : Heap) : Prop := g_spillwaylaw19_live m_proto_Request m_proto_ReadRequest  K h

/-- spillwaymem.Same -/
def g_spillwaymem_Same (a : Sl) (b : Sl) (K : Bool → Heap → Prop) (h : Heap) : Prop :=
  iteP ((a.len : Int) != (b.len : Int)) (
    K false h) (
    bindI 0 fun i => 
    loopM (σ := Int × Unit) (fun J2 s h3 =>
      (fun (i1 : Int) =>
        iteP (decide (i1 < (a.len : Int))) (
          idxA a.ptr a.len i1 1 fun b4 o => 
          ldI h3 b4 o .u8 fun t => 
          idxA b.ptr b.len i1 1 fun b5 o6 => 
          ldI h3 b5 o6 .u8 fun t7 => 
          iteP (t != t7) (
            K false h3) (
            bindI (IntKind.wrap .i64 (i1 + 1)) fun i8 => 
            J2 (i8, ()) h3)) (
          K true h3)) s.1) (i, ()) h)

def m_spillwaymem_Same (a : Sl) (b : Sl) (K : Bool → Heap → Prop) (h : Heap) : Prop := g_spillwaymem_Same a b K h

/-- spillwaymem.Kept -/
def g_spillwaymem_Kept (f_spillwaymem_Same : Sl → Sl → (Bool → Heap → Prop) → Heap → Prop) (in_ : Sl) (l : Sl) (K : Bool → Heap → Prop) (h : Heap) : Prop :=
  f_spillwaymem_Same in_ l (fun t h1 =>
    iteP (!t) (
      K false h1) (
      slc in_.ptr in_.cap 1 0 (IntKind.wrap .i64 ((l.len : Int) + 9)) in_.cap fun t2 => 
      bindI (l.len : Int) fun i => 
      loopM (σ := Int × Unit) (fun J4 s h5 =>
        (fun (i3 : Int) =>
          iteP (decide (i3 < (t2.len : Int))) (
            idxA t2.ptr t2.len i3 1 fun b o => 
            ldI h5 b o .u8 fun t6 => 
            iteP (t6 != (IntKind.wrap .u8 (IntKind.wrap .i64 ((IntKind.wrap .i64 ((160 : Int) + i3)) - (l.len : Int))))) (
              K false h5) (
              bindI (IntKind.wrap .i64 (i3 + 1)) fun i7 => 
              J4 (i7, ()) h5)) (
            K true h5)) s.1) (i, ()) h1)) h

def m_spillwaymem_Kept (in_ : Sl) (l : Sl) (K : Bool → Heap → Prop) (h : Heap) : Prop := g_spillwaymem_Kept m_spillwaymem_Same in_ l K h

/-- spillwaylaw19.ProtoReads -/
def g_spillwaylaw19_ProtoReads (f_spillwaymem_Hand : Sl → (Sl → Heap → Prop) → Heap → Prop) (f_proto_ReadRequest : Sl → ((Int × Int × Int × Int × ByteArray × Int × Unit) → Int → Int → Heap → Prop) → Heap → Prop) (f_spillwayref19_ReadRequest : Sl → ((Int × Int × Int × Int × ByteArray × Int × Unit) → Int → Int → Heap → Prop) → Heap → Prop) (f_proto_ReadAnswer : Sl → ((Int × Int × Int × Int × Int × Unit) → Int → Int → Heap → Prop) → Heap → Prop) (f_spillwayref19_ReadAnswer : Sl → ((Int × Int × Int × Int × Int × Unit) → Int → Int → Heap → Prop) → Heap → Prop) (f_spillwaylaw19_live : (Bool → Heap → Prop) → Heap → Prop) (f_spillwaymem_Kept : Sl → Sl → (Bool → Heap → Prop) → Heap → Prop) (b : Sl) (K : Bool → Heap → Prop) (h : Heap) : Prop :=
  f_spillwaymem_Hand b (fun t h1 =>
    f_proto_ReadRequest t (fun t2 t3 t4 h5 =>
      newC h5 [Value.int .i64 0, Value.int .u8 0, Value.int .i64 0, Value.int .i64 0, Value.string (ByteArray.mk #[]), Value.int .i64 0] 26 fun b6 h7 => 
      sts h7 b6 0 [Value.int .i64 t2.1, Value.int .u8 t2.2.1, Value.int .i64 t2.2.2.1, Value.int .i64 t2.2.2.2.1, Value.string t2.2.2.2.2.1, Value.int .i64 t2.2.2.2.2.2.1] fun h8 => 
      bindI t3 fun e => 
      bindI t4 fun at_ => 
      f_spillwayref19_ReadRequest b (fun t9 t10 t11 h12 =>
        newC h12 [Value.int .i64 0, Value.int .u8 0, Value.int .i64 0, Value.int .i64 0, Value.string (ByteArray.mk #[]), Value.int .i64 0] 26 fun b13 h14 => 
        sts h14 b13 0 [Value.int .i64 t9.1, Value.int .u8 t9.2.1, Value.int .i64 t9.2.2.1, Value.int .i64 t9.2.2.2.1, Value.string t9.2.2.2.2.1, Value.int .i64 t9.2.2.2.2.2.1] fun h15 => 
        bindI t10 fun f => 
        bindI t11 fun k => 
        f_proto_ReadAnswer t (fun t16 t17 t18 h19 =>
          newC h19 [Value.int .i64 0, Value.int .u8 0, Value.int .i64 0, Value.int .i64 0, Value.int .i64 0] 32 fun b20 h21 => 
          sts h21 b20 0 [Value.int .i64 t16.1, Value.int .u8 t16.2.1, Value.int .i64 t16.2.2.1, Value.int .i64 t16.2.2.2.1, Value.int .i64 t16.2.2.2.2.1] fun h22 => 
          bindI t17 fun g => 
          bindI t18 fun i => 
          f_spillwayref19_ReadAnswer b (fun t23 t24 t25 h26 =>
            newC h26 [Value.int .i64 0, Value.int .u8 0, Value.int .i64 0, Value.int .i64 0, Value.int .i64 0] 32 fun b27 h28 => 
            sts h28 b27 0 [Value.int .i64 t23.1, Value.int .u8 t23.2.1, Value.int .i64 t23.2.2.1, Value.int .i64 t23.2.2.2.1, Value.int .i64 t23.2.2.2.2.1] fun h29 => 
            bindI t24 fun h30 => 
            bindI t25 fun j => 
            f_spillwaylaw19_live (fun t31 h32 =>
              iteP t31 (
                ldI h32 b6 0 .i64 fun t33 => ldI h32 b6 (0 + 1) .u8 fun t34 => ldI h32 b6 (0 + 2) .i64 fun t35 => ldI h32 b6 (0 + 3) .i64 fun t36 => ldS h32 b6 (0 + 4) fun t37 => ldI h32 b6 (0 + 5) .i64 fun t38 => 
                ldI h32 b13 0 .i64 fun t39 => ldI h32 b13 (0 + 1) .u8 fun t40 => ldI h32 b13 (0 + 2) .i64 fun t41 => ldI h32 b13 (0 + 3) .i64 fun t42 => ldS h32 b13 (0 + 4) fun t43 => ldI h32 b13 (0 + 5) .i64 fun t44 => 
                iteP (bif t33 == t39 then (bif t34 == t40 then (bif t35 == t41 then (bif t36 == t42 then (bif strEq t37 t43 then (bif t38 == t44 then true else false) else false) else false) else false) else false) else false) (
                  iteP (e == f) (
                    iteP (at_ == k) (
                      ldI h32 b20 0 .i64 fun t45 => ldI h32 b20 (0 + 1) .u8 fun t46 => ldI h32 b20 (0 + 2) .i64 fun t47 => ldI h32 b20 (0 + 3) .i64 fun t48 => ldI h32 b20 (0 + 4) .i64 fun t49 => 
                      ldI h32 b27 0 .i64 fun t50 => ldI h32 b27 (0 + 1) .u8 fun t51 => ldI h32 b27 (0 + 2) .i64 fun t52 => ldI h32 b27 (0 + 3) .i64 fun t53 => ldI h32 b27 (0 + 4) .i64 fun t54 => 
                      iteP (bif t45 == t50 then (bif t46 == t51 then (bif t47 == t52 then (bif t48 == t53 then (bif t49 == t54 then true else false) else false) else false) else false) else false) (
                        iteP (g == h30) (
                          iteP (i == j) (
                            f_spillwaymem_Kept t b (fun t55 h56 =>
                              bindB t55 fun t57 => 
                              K t57 h56) h32) (
                            K false h32)) (
                          K false h32)) (
                        K false h32)) (
                      K false h32)) (
                    K false h32)) (
                  K false h32)) (
                K false h32)) h29) h22) h15) h8) h1) h

def m_spillwaylaw19_ProtoReads (b : Sl) (K : Bool → Heap → Prop) (h : Heap) : Prop := g_spillwaylaw19_ProtoReads m_spillwaymem_Hand m_proto_ReadRequest m_spillwayref19_ReadRequest m_proto_ReadAnswer m_spillwayref19_ReadAnswer m_spillwaylaw19_live m_spillwaymem_Kept b K h

/-- proto.Answer -/
def g_proto_Answer (f_proto_RightAnswer : (Int × Int × Int × Int × Int × Unit) → (Bool → Heap → Prop) → Heap → Prop) (f_proto_writer_numbers : (Option Addr) → Sl → (Heap → Prop) → Heap → Prop) (a : Int × Int × Int × Int × Int × Unit) (K : Sl → Int → Heap → Prop) (h : Heap) : Prop :=
  newC h [Value.int .i64 a.1, Value.int .u8 a.2.1, Value.int .i64 a.2.2.1, Value.int .i64 a.2.2.2.1, Value.int .i64 a.2.2.2.2.1] 32 fun b h1 => 
  bindI 0 fun t => 
  ldI h1 b 0 .i64 fun t2 => ldI h1 b (0 + 1) .u8 fun t3 => ldI h1 b (0 + 2) .i64 fun t4 => ldI h1 b (0 + 3) .i64 fun t5 => ldI h1 b (0 + 4) .i64 fun t6 => 
  f_proto_RightAnswer (t2, t3, t4, t5, t6, ()) (fun t7 h8 =>
    iteP (!t7) (
      bindI 6 fun t9 => 
      K ⟨none, 0, 0⟩ t9 h8) (
      ldI h8 b (0 + 1) .u8 fun t10 => 
      newC h8 [Value.int .u8 t10] 5 fun b11 h12 => 
      newC h12 [Value.slice none 0 0] 64 fun b13 h14 => 
      sts h14 b13 0 [Value.slice (some ⟨b11, 0, none⟩) 1 1] fun h15 => 
      ldI h15 b 0 .i64 fun t16 => 
      ldI h15 b (0 + 2) .i64 fun t17 => 
      ldI h15 b (0 + 3) .i64 fun t18 => 
      ldI h15 b (0 + 4) .i64 fun t19 => 
      newC h15 [Value.int .i64 t16, Value.int .i64 t17, Value.int .i64 t18, Value.int .i64 t19] 3 fun b20 h21 => 
      f_proto_writer_numbers (some ⟨b13, 0, none⟩) ⟨some ⟨b20, 0, none⟩, 4, 4⟩ (fun h22 =>
        ldL h22 b13 0 fun t23 => 
        bindI 0 fun t24 => 
        K t23 t24 h22) h21)) h1

def m_proto_Answer (a : Int × Int × Int × Int × Int × Unit) (K : Sl → Int → Heap → Prop) (h : Heap) : Prop := g_proto_Answer m_proto_RightAnswer m_proto_writer_numbers a K h

/-- spillwaylaw19.ProtoBack -/
def g_spillwaylaw19_ProtoBack (f_proto_Request : (Int × Int × Int × Int × ByteArray × Int × Unit) → (Sl → Int → Heap → Prop) → Heap → Prop) (f_proto_ReadRequest : Sl → ((Int × Int × Int × Int × ByteArray × Int × Unit) → Int → Int → Heap → Prop) → Heap → Prop) (f_proto_Answer : (Int × Int × Int × Int × Int × Unit) → (Sl → Int → Heap → Prop) → Heap → Prop) (f_proto_ReadAnswer : Sl → ((Int × Int × Int × Int × Int × Unit) → Int → Int → Heap → Prop) → Heap → Prop) (f_spillwaymem_Same : Sl → Sl → (Bool → Heap → Prop) → Heap → Prop) (f_spillwaylaw19_live : (Bool → Heap → Prop) → Heap → Prop) (r : Int × Int × Int × Int × ByteArray × Int × Unit) (a : Int × Int × Int × Int × Int × Unit) (b : Sl) (K : Bool → Heap → Prop) (h : Heap) : Prop :=
  newC h [Value.int .i64 r.1, Value.int .u8 r.2.1, Value.int .i64 r.2.2.1, Value.int .i64 r.2.2.2.1, Value.string r.2.2.2.2.1, Value.int .i64 r.2.2.2.2.2.1] 26 fun b1 h2 => 
  newC h2 [Value.int .i64 a.1, Value.int .u8 a.2.1, Value.int .i64 a.2.2.1, Value.int .i64 a.2.2.2.1, Value.int .i64 a.2.2.2.2.1] 32 fun b3 h4 => 
  ldI h4 b1 0 .i64 fun t => ldI h4 b1 (0 + 1) .u8 fun t5 => ldI h4 b1 (0 + 2) .i64 fun t6 => ldI h4 b1 (0 + 3) .i64 fun t7 => ldS h4 b1 (0 + 4) fun t8 => ldI h4 b1 (0 + 5) .i64 fun t9 => 
  f_proto_Request (t, t5, t6, t7, t8, t9, ()) (fun t10 t11 h12 =>
    bindI t11 fun e => 
    cutP (σ := Unit) (fun s h33 =>
      ldI h33 b3 0 .i64 fun t34 => ldI h33 b3 (0 + 1) .u8 fun t35 => ldI h33 b3 (0 + 2) .i64 fun t36 => ldI h33 b3 (0 + 3) .i64 fun t37 => ldI h33 b3 (0 + 4) .i64 fun t38 => 
      f_proto_Answer (t34, t35, t36, t37, t38, ()) (fun t39 t40 h41 =>
        bindI t40 fun e42 => 
        cutP (σ := Unit) (fun s63 h64 =>
          f_proto_ReadRequest b (fun t65 t66 t67 h68 =>
            newC h68 [Value.int .i64 0, Value.int .u8 0, Value.int .i64 0, Value.int .i64 0, Value.string (ByteArray.mk #[]), Value.int .i64 0] 26 fun b69 h70 => 
            sts h70 b69 0 [Value.int .i64 t65.1, Value.int .u8 t65.2.1, Value.int .i64 t65.2.2.1, Value.int .i64 t65.2.2.2.1, Value.string t65.2.2.2.2.1, Value.int .i64 t65.2.2.2.2.2.1] fun h71 => 
            bindI t66 fun e72 => 
            bindI t67 fun _73 => 
            iteP (e72 == 0) (
              ldI h71 b69 0 .i64 fun t74 => ldI h71 b69 (0 + 1) .u8 fun t75 => ldI h71 b69 (0 + 2) .i64 fun t76 => ldI h71 b69 (0 + 3) .i64 fun t77 => ldS h71 b69 (0 + 4) fun t78 => ldI h71 b69 (0 + 5) .i64 fun t79 => 
              f_proto_Request (t74, t75, t76, t77, t78, t79, ()) (fun t80 t81 h82 =>
                bindI t81 fun f83 => 
                iteP (f83 != 0) (
                  K false h82) (
                  f_spillwaymem_Same t80 b (fun t84 h85 =>
                    iteP (!t84) (
                      K false h85) (
                      f_spillwaylaw19_live (fun t86 h87 =>
                        bindB t86 fun t88 => 
                        K t88 h87) h85)) h82)) h71) (
              f_spillwaylaw19_live (fun t89 h90 =>
                bindB t89 fun t91 => 
                K t91 h90) h71)) h64) (fun J43 =>
          iteP (e42 == 0) (
            f_proto_ReadAnswer t39 (fun t44 t45 t46 h47 =>
              newC h47 [Value.int .i64 0, Value.int .u8 0, Value.int .i64 0, Value.int .i64 0, Value.int .i64 0] 32 fun b48 h49 => 
              sts h49 b48 0 [Value.int .i64 t44.1, Value.int .u8 t44.2.1, Value.int .i64 t44.2.2.1, Value.int .i64 t44.2.2.2.1, Value.int .i64 t44.2.2.2.2.1] fun h50 => 
              bindI t45 fun f51 => 
              bindI t46 fun _52 => 
              iteP (f51 != 0) (
                K false h50) (
                ldI h50 b48 0 .i64 fun t53 => ldI h50 b48 (0 + 1) .u8 fun t54 => ldI h50 b48 (0 + 2) .i64 fun t55 => ldI h50 b48 (0 + 3) .i64 fun t56 => ldI h50 b48 (0 + 4) .i64 fun t57 => 
                ldI h50 b3 0 .i64 fun t58 => ldI h50 b3 (0 + 1) .u8 fun t59 => ldI h50 b3 (0 + 2) .i64 fun t60 => ldI h50 b3 (0 + 3) .i64 fun t61 => ldI h50 b3 (0 + 4) .i64 fun t62 => 
                iteP (!(bif t53 == t58 then (bif t54 == t59 then (bif t55 == t60 then (bif t56 == t61 then (bif t57 == t62 then true else false) else false) else false) else false) else false)) (
                  K false h50) (
                  J43 (()) h50))) h41) (
            J43 (()) h41))) h33) (fun J13 =>
      iteP (e == 0) (
        f_proto_ReadRequest t10 (fun t14 t15 t16 h17 =>
          newC h17 [Value.int .i64 0, Value.int .u8 0, Value.int .i64 0, Value.int .i64 0, Value.string (ByteArray.mk #[]), Value.int .i64 0] 26 fun b18 h19 => 
          sts h19 b18 0 [Value.int .i64 t14.1, Value.int .u8 t14.2.1, Value.int .i64 t14.2.2.1, Value.int .i64 t14.2.2.2.1, Value.string t14.2.2.2.2.1, Value.int .i64 t14.2.2.2.2.2.1] fun h20 => 
          bindI t15 fun f => 
          bindI t16 fun _ => 
          iteP (f != 0) (
            K false h20) (
            ldI h20 b18 0 .i64 fun t21 => ldI h20 b18 (0 + 1) .u8 fun t22 => ldI h20 b18 (0 + 2) .i64 fun t23 => ldI h20 b18 (0 + 3) .i64 fun t24 => ldS h20 b18 (0 + 4) fun t25 => ldI h20 b18 (0 + 5) .i64 fun t26 => 
            ldI h20 b1 0 .i64 fun t27 => ldI h20 b1 (0 + 1) .u8 fun t28 => ldI h20 b1 (0 + 2) .i64 fun t29 => ldI h20 b1 (0 + 3) .i64 fun t30 => ldS h20 b1 (0 + 4) fun t31 => ldI h20 b1 (0 + 5) .i64 fun t32 => 
            iteP (!(bif t21 == t27 then (bif t22 == t28 then (bif t23 == t29 then (bif t24 == t30 then (bif strEq t25 t31 then (bif t26 == t32 then true else false) else false) else false) else false) else false) else false)) (
              K false h20) (
              iteP (decide ((t10.len : Int) > 4096)) (
                K false h20) (
                J13 (()) h20)))) h12) (
        J13 (()) h12))) h4

def m_spillwaylaw19_ProtoBack (r : Int × Int × Int × Int × ByteArray × Int × Unit) (a : Int × Int × Int × Int × Int × Unit) (b : Sl) (K : Bool → Heap → Prop) (h : Heap) : Prop := g_spillwaylaw19_ProtoBack m_proto_Request m_proto_ReadRequest m_proto_Answer m_proto_ReadAnswer m_spillwaymem_Same m_spillwaylaw19_live r a b K h

/-- spillwayref19.eight -/
def g_spillwayref19_eight (n : Int) (K : Sl → Heap → Prop) (h : Heap) : Prop :=
  bindI 56 fun i => 
  loopM (σ := Sl × Int × Unit) (fun J2 s h3 =>
    (fun (out : Sl) (i1 : Int) =>
      iteP (decide (i1 ≥ 0)) (
        need (0 ≤ i1) <| 
        newC h3 [Value.int .u8 (IntKind.wrap .u8 (shrV .i64 n i1))] 5 fun b h4 => 
        rdS ⟨some ⟨b, 0, none⟩, 1, 1⟩ 1 h4 fun new => app 5 1 1 [Value.int .u8 0] out 1 new h4 fun t h5 => 
        bindI (IntKind.wrap .i64 (i1 - 8)) fun i6 => 
        J2 (t, i6, ()) h5) (
        K out h3)) s.1 s.2.1) (⟨none, 0, 0⟩, i, ()) h

def m_spillwayref19_eight (n : Int) (K : Sl → Heap → Prop) (h : Heap) : Prop := g_spillwayref19_eight n K h

/-- spillwayref19.Request -/
def g_spillwayref19_Request (f_spillwayref19_Right : (Int × Int × Int × Int × ByteArray × Int × Unit) → (Bool → Heap → Prop) → Heap → Prop) (f_spillwayref19_eight : Int → (Sl → Heap → Prop) → Heap → Prop) (r : Int × Int × Int × Int × ByteArray × Int × Unit) (K : Sl → Int → Heap → Prop) (h : Heap) : Prop :=
  newC h [Value.int .i64 r.1, Value.int .u8 r.2.1, Value.int .i64 r.2.2.1, Value.int .i64 r.2.2.2.1, Value.string r.2.2.2.2.1, Value.int .i64 r.2.2.2.2.2.1] 26 fun b h1 => 
  bindI 0 fun t => 
  ldI h1 b 0 .i64 fun t2 => ldI h1 b (0 + 1) .u8 fun t3 => ldI h1 b (0 + 2) .i64 fun t4 => ldI h1 b (0 + 3) .i64 fun t5 => ldS h1 b (0 + 4) fun t6 => ldI h1 b (0 + 5) .i64 fun t7 => 
  f_spillwayref19_Right (t2, t3, t4, t5, t6, t7, ()) (fun t8 h9 =>
    iteP (!t8) (
      bindI 6 fun t10 => 
      K ⟨none, 0, 0⟩ t10 h9) (
      ldI h9 b (0 + 1) .u8 fun t11 => 
      newC h9 [Value.int .u8 t11] 5 fun b12 h13 => 
      ldI h13 b 0 .i64 fun t14 => 
      f_spillwayref19_eight t14 (fun t15 h16 =>
        rdS t15 1 h16 fun new => app 5 1 1 [Value.int .u8 0] ⟨some ⟨b12, 0, none⟩, 1, 1⟩ t15.len new h16 fun t17 h18 => 
        ldI h18 b (0 + 2) .i64 fun t19 => 
        f_spillwayref19_eight t19 (fun t20 h21 =>
          rdS t20 1 h21 fun new24 => app 5 1 1 [Value.int .u8 0] t17 t20.len new24 h21 fun t22 h23 => 
          ldI h23 b (0 + 3) .i64 fun t25 => 
          f_spillwayref19_eight t25 (fun t26 h27 =>
            rdS t26 1 h27 fun new30 => app 5 1 1 [Value.int .u8 0] t22 t26.len new30 h27 fun t28 h29 => 
            ldI h29 b (0 + 5) .i64 fun t31 => 
            f_spillwayref19_eight t31 (fun t32 h33 =>
              rdS t32 1 h33 fun new36 => app 5 1 1 [Value.int .u8 0] t28 t32.len new36 h33 fun t34 h35 => 
              ldS h35 b (0 + 4) fun t37 => 
              newC h35 [Value.int .u8 (IntKind.wrap .u8 (t37.size : Int))] 5 fun b38 h39 => 
              rdS ⟨some ⟨b38, 0, none⟩, 1, 1⟩ 1 h39 fun new42 => app 5 1 1 [Value.int .u8 0] t34 1 new42 h39 fun t40 h41 => 
              ldS h41 b (0 + 4) fun t43 => 
              app 5 1 1 [Value.int .u8 0] t40 t43.size (byteVals t43) h41 fun t44 h45 => 
              bindI 0 fun t46 => 
              K t44 t46 h45) h29) h23) h18) h13)) h1

def m_spillwayref19_Request (r : Int × Int × Int × Int × ByteArray × Int × Unit) (K : Sl → Int → Heap → Prop) (h : Heap) : Prop := g_spillwayref19_Request m_spillwayref19_Right m_spillwayref19_eight r K h

/-- spillwayref19.Answer -/
def g_spillwayref19_Answer (f_spillwayref19_RightAnswer : (Int × Int × Int × Int × Int × Unit) → (Bool → Heap → Prop) → Heap → Prop) (f_spillwayref19_eight : Int → (Sl → Heap → Prop) → Heap → Prop) (a : Int × Int × Int × Int × Int × Unit) (K : Sl → Int → Heap → Prop) (h : Heap) : Prop :=
  newC h [Value.int .i64 a.1, Value.int .u8 a.2.1, Value.int .i64 a.2.2.1, Value.int .i64 a.2.2.2.1, Value.int .i64 a.2.2.2.2.1] 32 fun b h1 => 
  bindI 0 fun t => 
  ldI h1 b 0 .i64 fun t2 => ldI h1 b (0 + 1) .u8 fun t3 => ldI h1 b (0 + 2) .i64 fun t4 => ldI h1 b (0 + 3) .i64 fun t5 => ldI h1 b (0 + 4) .i64 fun t6 => 
  f_spillwayref19_RightAnswer (t2, t3, t4, t5, t6, ()) (fun t7 h8 =>
    iteP (!t7) (
      bindI 6 fun t9 => 
      K ⟨none, 0, 0⟩ t9 h8) (
      ldI h8 b (0 + 1) .u8 fun t10 => 
      newC h8 [Value.int .u8 t10] 5 fun b11 h12 => 
      ldI h12 b 0 .i64 fun t13 => 
      f_spillwayref19_eight t13 (fun t14 h15 =>
        rdS t14 1 h15 fun new => app 5 1 1 [Value.int .u8 0] ⟨some ⟨b11, 0, none⟩, 1, 1⟩ t14.len new h15 fun t16 h17 => 
        ldI h17 b (0 + 2) .i64 fun t18 => 
        f_spillwayref19_eight t18 (fun t19 h20 =>
          rdS t19 1 h20 fun new23 => app 5 1 1 [Value.int .u8 0] t16 t19.len new23 h20 fun t21 h22 => 
          ldI h22 b (0 + 3) .i64 fun t24 => 
          f_spillwayref19_eight t24 (fun t25 h26 =>
            rdS t25 1 h26 fun new29 => app 5 1 1 [Value.int .u8 0] t21 t25.len new29 h26 fun t27 h28 => 
            ldI h28 b (0 + 4) .i64 fun t30 => 
            f_spillwayref19_eight t30 (fun t31 h32 =>
              rdS t31 1 h32 fun new35 => app 5 1 1 [Value.int .u8 0] t27 t31.len new35 h32 fun t33 h34 => 
              bindI 0 fun t36 => 
              K t33 t36 h34) h28) h22) h17) h12)) h1

def m_spillwayref19_Answer (a : Int × Int × Int × Int × Int × Unit) (K : Sl → Int → Heap → Prop) (h : Heap) : Prop := g_spillwayref19_Answer m_spillwayref19_RightAnswer m_spillwayref19_eight a K h

/-- frame.Frame -/
def g_frame_Frame (payload : Sl) (K : Sl → Int → Heap → Prop) (h : Heap) : Prop :=
  bindI 0 fun t => 
  bindI (payload.len : Int) fun n => 
  bindB (decide (n > 4096)) fun t1 => 
  iteP t1 (
    bindI 5 fun t2 => 
    K ⟨none, 0, 0⟩ t2 h) (
    bindB (n == 0) fun t3 => 
    iteP t3 (
      bindI 6 fun t4 => 
      K ⟨none, 0, 0⟩ t4 h) (
      need (0 ≤ (24 : Int)) <| 
      need (0 ≤ (16 : Int)) <| 
      need (0 ≤ (8 : Int)) <| 
      newC h [Value.int .u8 (IntKind.wrap .u8 (shrV .i64 n 24)), Value.int .u8 (IntKind.wrap .u8 (shrV .i64 n 16)), Value.int .u8 (IntKind.wrap .u8 (shrV .i64 n 8)), Value.int .u8 (IntKind.wrap .u8 n)] 5 fun b h5 => 
      rdS payload 1 h5 fun new => app 5 1 1 [Value.int .u8 0] ⟨some ⟨b, 0, none⟩, 4, 4⟩ payload.len new h5 fun t6 h7 => 
      bindI 0 fun t8 => 
      K t6 t8 h7))

def m_frame_Frame (payload : Sl) (K : Sl → Int → Heap → Prop) (h : Heap) : Prop := g_frame_Frame payload K h

/-- frame.Frames -/
def g_frame_Frames (f_frame_Frame : Sl → (Sl → Int → Heap → Prop) → Heap → Prop) (l : Sl) (K : Sl → Int → Heap → Prop) (h : Heap) : Prop :=
  bindI 0 fun t => 
  loopM (σ := Sl × Int × Unit) (fun J1 s h2 =>
    (fun (out : Sl) (s11 : Int) =>
      iteP (decide (s11 < (l.len : Int))) (
        idxA l.ptr l.len s11 1 fun b o => 
        ldL h2 b o fun t3 => 
        f_frame_Frame t3 (fun t4 t5 h6 =>
          bindI t5 fun e => 
          iteP (e != 0) (
            bindI e fun t7 => 
            K ⟨none, 0, 0⟩ t7 h6) (
            rdS t4 1 h6 fun new => app 5 1 1 [Value.int .u8 0] out t4.len new h6 fun t8 h9 => 
            J1 (t8, IntKind.wrap .i64 (s11 + 1), ()) h9)) h2) (
        bindI 0 fun t10 => 
        K out t10 h2)) s.1 s.2.1) (⟨none, 0, 0⟩, 0, ()) h

def m_frame_Frames (l : Sl) (K : Sl → Int → Heap → Prop) (h : Heap) : Prop := g_frame_Frames m_frame_Frame l K h

/-- proto.All -/
def g_proto_All (f_proto_Request : (Int × Int × Int × Int × ByteArray × Int × Unit) → (Sl → Int → Heap → Prop) → Heap → Prop) (f_frame_Frames : Sl → (Sl → Int → Heap → Prop) → Heap → Prop) (l : Sl) (K : Sl → Int → Heap → Prop) (h : Heap) : Prop :=
  bindI 0 fun t => 
  loopM (σ := Sl × Int × Unit) (fun J1 s h2 =>
    (fun (payloads : Sl) (s11 : Int) =>
      iteP (decide (s11 < (l.len : Int))) (
        idxA l.ptr l.len s11 6 fun b o => 
        ldI h2 b o .i64 fun t3 => ldI h2 b (o + 1) .u8 fun t4 => ldI h2 b (o + 2) .i64 fun t5 => ldI h2 b (o + 3) .i64 fun t6 => ldS h2 b (o + 4) fun t7 => ldI h2 b (o + 5) .i64 fun t8 => 
        newC h2 [Value.int .i64 0, Value.int .u8 0, Value.int .i64 0, Value.int .i64 0, Value.string (ByteArray.mk #[]), Value.int .i64 0] 26 fun b9 h10 => 
        sts h10 b9 0 [Value.int .i64 t3, Value.int .u8 t4, Value.int .i64 t5, Value.int .i64 t6, Value.string t7, Value.int .i64 t8] fun h11 => 
        ldI h11 b9 0 .i64 fun t12 => ldI h11 b9 (0 + 1) .u8 fun t13 => ldI h11 b9 (0 + 2) .i64 fun t14 => ldI h11 b9 (0 + 3) .i64 fun t15 => ldS h11 b9 (0 + 4) fun t16 => ldI h11 b9 (0 + 5) .i64 fun t17 => 
        f_proto_Request (t12, t13, t14, t15, t16, t17, ()) (fun t18 t19 h20 =>
          bindI t19 fun err => 
          iteP (err != 0) (
            bindI err fun t21 => 
            K ⟨none, 0, 0⟩ t21 h20) (
            newC h20 [Value.slice t18.ptr t18.len t18.cap] 22 fun b22 h23 => 
            rdS ⟨some ⟨b22, 0, none⟩, 1, 1⟩ 1 h23 fun new => app 22 1 24 [Value.slice none 0 0] payloads 1 new h23 fun t24 h25 => 
            J1 (t24, IntKind.wrap .i64 (s11 + 1), ()) h25)) h11) (
        f_frame_Frames payloads (fun t26 t27 h28 =>
          bindI t27 fun t29 => 
          K t26 t29 h28) h2)) s.1 s.2.1) (⟨none, 0, 0⟩, 0, ()) h

def m_proto_All (l : Sl) (K : Sl → Int → Heap → Prop) (h : Heap) : Prop := g_proto_All m_proto_Request m_frame_Frames l K h

/-- spillwayref18.Frame -/
def g_spillwayref18_Frame (payload : Sl) (K : Sl → Int → Heap → Prop) (h : Heap) : Prop :=
  bindI 0 fun t => 
  bindI (payload.len : Int) fun n => 
  bindB (decide (n > 4096)) fun t1 => 
  iteP t1 (
    bindI 5 fun t2 => 
    K ⟨none, 0, 0⟩ t2 h) (
    bindB (n == 0) fun t3 => 
    iteP t3 (
      bindI 6 fun t4 => 
      K ⟨none, 0, 0⟩ t4 h) (
      need (0 ≤ (8 : Int)) <| 
      newC h [Value.int .u8 0, Value.int .u8 0, Value.int .u8 (IntKind.wrap .u8 (shrV .i64 n 8)), Value.int .u8 (IntKind.wrap .u8 n)] 5 fun b h5 => 
      rdS payload 1 h5 fun new => app 5 1 1 [Value.int .u8 0] ⟨some ⟨b, 0, none⟩, 4, 4⟩ payload.len new h5 fun t6 h7 => 
      bindI 0 fun t8 => 
      K t6 t8 h7))

def m_spillwayref18_Frame (payload : Sl) (K : Sl → Int → Heap → Prop) (h : Heap) : Prop := g_spillwayref18_Frame payload K h

/-- spillwaylaw19.ProtoMessages -/
def g_spillwaylaw19_ProtoMessages (f_proto_Request : (Int × Int × Int × Int × ByteArray × Int × Unit) → (Sl → Int → Heap → Prop) → Heap → Prop) (f_spillwayref19_Request : (Int × Int × Int × Int × ByteArray × Int × Unit) → (Sl → Int → Heap → Prop) → Heap → Prop) (f_proto_Answer : (Int × Int × Int × Int × Int × Unit) → (Sl → Int → Heap → Prop) → Heap → Prop) (f_spillwayref19_Answer : (Int × Int × Int × Int × Int × Unit) → (Sl → Int → Heap → Prop) → Heap → Prop) (f_spillwaylaw19_live : (Bool → Heap → Prop) → Heap → Prop) (f_spillwaymem_Same : Sl → Sl → (Bool → Heap → Prop) → Heap → Prop) (f_proto_Right : (Int × Int × Int × Int × ByteArray × Int × Unit) → (Bool → Heap → Prop) → Heap → Prop) (f_spillwayref19_Right : (Int × Int × Int × Int × ByteArray × Int × Unit) → (Bool → Heap → Prop) → Heap → Prop) (f_proto_RightAnswer : (Int × Int × Int × Int × Int × Unit) → (Bool → Heap → Prop) → Heap → Prop) (f_spillwayref19_RightAnswer : (Int × Int × Int × Int × Int × Unit) → (Bool → Heap → Prop) → Heap → Prop) (f_proto_All : Sl → (Sl → Int → Heap → Prop) → Heap → Prop) (f_spillwayref18_Frame : Sl → (Sl → Int → Heap → Prop) → Heap → Prop) (r : Int × Int × Int × Int × ByteArray × Int × Unit) (a : Int × Int × Int × Int × Int × Unit) (l : Sl) (K : Bool → Heap → Prop) (h : Heap) : Prop :=
  newC h [Value.int .i64 r.1, Value.int .u8 r.2.1, Value.int .i64 r.2.2.1, Value.int .i64 r.2.2.2.1, Value.string r.2.2.2.2.1, Value.int .i64 r.2.2.2.2.2.1] 26 fun b h1 => 
  newC h1 [Value.int .i64 a.1, Value.int .u8 a.2.1, Value.int .i64 a.2.2.1, Value.int .i64 a.2.2.2.1, Value.int .i64 a.2.2.2.2.1] 32 fun b2 h3 => 
  ldI h3 b 0 .i64 fun t => ldI h3 b (0 + 1) .u8 fun t4 => ldI h3 b (0 + 2) .i64 fun t5 => ldI h3 b (0 + 3) .i64 fun t6 => ldS h3 b (0 + 4) fun t7 => ldI h3 b (0 + 5) .i64 fun t8 => 
  f_proto_Request (t, t4, t5, t6, t7, t8, ()) (fun t9 t10 h11 =>
    bindI t10 fun e => 
    ldI h11 b 0 .i64 fun t12 => ldI h11 b (0 + 1) .u8 fun t13 => ldI h11 b (0 + 2) .i64 fun t14 => ldI h11 b (0 + 3) .i64 fun t15 => ldS h11 b (0 + 4) fun t16 => ldI h11 b (0 + 5) .i64 fun t17 => 
    f_spillwayref19_Request (t12, t13, t14, t15, t16, t17, ()) (fun t18 t19 h20 =>
      bindI t19 fun f => 
      ldI h20 b2 0 .i64 fun t21 => ldI h20 b2 (0 + 1) .u8 fun t22 => ldI h20 b2 (0 + 2) .i64 fun t23 => ldI h20 b2 (0 + 3) .i64 fun t24 => ldI h20 b2 (0 + 4) .i64 fun t25 => 
      f_proto_Answer (t21, t22, t23, t24, t25, ()) (fun t26 t27 h28 =>
        bindI t27 fun g => 
        ldI h28 b2 0 .i64 fun t29 => ldI h28 b2 (0 + 1) .u8 fun t30 => ldI h28 b2 (0 + 2) .i64 fun t31 => ldI h28 b2 (0 + 3) .i64 fun t32 => ldI h28 b2 (0 + 4) .i64 fun t33 => 
        f_spillwayref19_Answer (t29, t30, t31, t32, t33, ()) (fun t34 t35 h36 =>
          bindI t35 fun h37 => 
          f_spillwaylaw19_live (fun t38 h39 =>
            iteP (!t38) (
              K false h39) (
              f_spillwaymem_Same t9 t18 (fun t40 h41 =>
                iteP (!t40) (
                  K false h41) (
                  iteP (e != f) (
                    K false h41) (
                    f_spillwaymem_Same t26 t34 (fun t42 h43 =>
                      iteP (!t42) (
                        K false h43) (
                        iteP (g != h37) (
                          K false h43) (
                          ldI h43 b 0 .i64 fun t44 => ldI h43 b (0 + 1) .u8 fun t45 => ldI h43 b (0 + 2) .i64 fun t46 => ldI h43 b (0 + 3) .i64 fun t47 => ldS h43 b (0 + 4) fun t48 => ldI h43 b (0 + 5) .i64 fun t49 => 
                          ldI h43 b 0 .i64 fun t50 => ldI h43 b (0 + 1) .u8 fun t51 => ldI h43 b (0 + 2) .i64 fun t52 => ldI h43 b (0 + 3) .i64 fun t53 => ldS h43 b (0 + 4) fun t54 => ldI h43 b (0 + 5) .i64 fun t55 => 
                          f_proto_Right (t44, t45, t46, t47, t48, t49, ()) (fun t56 h57 =>
                            need (heldL h57 [(b, 0, Value.int .i64 t50), (b, 0 + 1, Value.int .u8 t51), (b, 0 + 2, Value.int .i64 t52), (b, 0 + 3, Value.int .i64 t53), (b, 0 + 4, Value.string t54), (b, 0 + 5, Value.int .i64 t55)]) <|
                            f_spillwayref19_Right (t50, t51, t52, t53, t54, t55, ()) (fun t58 h59 =>
                              iteP (t56 != t58) (
                                K false h59) (
                                ldI h59 b2 0 .i64 fun t60 => ldI h59 b2 (0 + 1) .u8 fun t61 => ldI h59 b2 (0 + 2) .i64 fun t62 => ldI h59 b2 (0 + 3) .i64 fun t63 => ldI h59 b2 (0 + 4) .i64 fun t64 => 
                                ldI h59 b2 0 .i64 fun t65 => ldI h59 b2 (0 + 1) .u8 fun t66 => ldI h59 b2 (0 + 2) .i64 fun t67 => ldI h59 b2 (0 + 3) .i64 fun t68 => ldI h59 b2 (0 + 4) .i64 fun t69 => 
                                f_proto_RightAnswer (t60, t61, t62, t63, t64, ()) (fun t70 h71 =>
                                  need (heldL h71 [(b2, 0, Value.int .i64 t65), (b2, 0 + 1, Value.int .u8 t66), (b2, 0 + 2, Value.int .i64 t67), (b2, 0 + 3, Value.int .i64 t68), (b2, 0 + 4, Value.int .i64 t69)]) <|
                                  f_spillwayref19_RightAnswer (t65, t66, t67, t68, t69, ()) (fun t72 h73 =>
                                    iteP (t70 != t72) (
                                      K false h73) (
                                      f_proto_All l (fun t74 t75 h76 =>
                                        bindI t75 fun e77 => 
                                        bindI 0 fun f78 => 
                                        cutP (σ := Int × Sl × Unit) (fun s103 h104 =>
                                          (fun (f101 : Int) (want102 : Sl) =>
                                            cutP (σ := Sl × Unit) (fun s107 h108 =>
                                              (fun (want106 : Sl) =>
                                                iteP (e77 == f101) (
                                                  f_spillwaymem_Same t74 want106 (fun t109 h110 =>
                                                    bindB t109 fun t111 => 
                                                    K t111 h110) h108) (
                                                  K false h108)) s107.1) (fun J105 =>
                                              iteP (f101 != 0) (
                                                J105 (⟨none, 0, 0⟩, ()) h104) (
                                                J105 (want102, ()) h104))) s103.1 s103.2.1) (fun J79 =>
                                          bindI 0 fun i => 
                                          loopM (σ := Int × Sl × Int × Unit) (fun J82 s h83 =>
                                            (fun (f80 : Int) (want : Sl) (i81 : Int) =>
                                              iteP (decide (i81 < (l.len : Int))) (
                                                iteP (f80 == 0) (
                                                  idxA l.ptr l.len i81 6 fun b84 o => 
                                                  ldI h83 b84 o .i64 fun t85 => ldI h83 b84 (o + 1) .u8 fun t86 => ldI h83 b84 (o + 2) .i64 fun t87 => ldI h83 b84 (o + 3) .i64 fun t88 => ldS h83 b84 (o + 4) fun t89 => ldI h83 b84 (o + 5) .i64 fun t90 => 
                                                  f_spillwayref19_Request (t85, t86, t87, t88, t89, t90, ()) (fun t91 t92 h93 =>
                                                    bindI t92 fun w => 
                                                    bindI w fun f94 => 
                                                    f_spillwayref18_Frame t91 (fun t95 t96 h97 =>
                                                      rdS t95 1 h97 fun new => app 5 1 1 [Value.int .u8 0] want t95.len new h97 fun t98 h99 => 
                                                      bindI (IntKind.wrap .i64 (i81 + 1)) fun i100 => 
                                                      J82 (f94, t98, i100, ()) h99) h93) h83) (
                                                  J79 (f80, want, ()) h83)) (
                                                J79 (f80, want, ()) h83)) s.1 s.2.1 s.2.2.1) (f78, ⟨none, 0, 0⟩, i, ()) h76)) h73)) h71) h59)) h57) h43))) h41))) h39)) h36) h28) h20) h11) h3

def m_spillwaylaw19_ProtoMessages (r : Int × Int × Int × Int × ByteArray × Int × Unit) (a : Int × Int × Int × Int × Int × Unit) (l : Sl) (K : Bool → Heap → Prop) (h : Heap) : Prop := g_spillwaylaw19_ProtoMessages m_proto_Request m_spillwayref19_Request m_proto_Answer m_spillwayref19_Answer m_spillwaylaw19_live m_spillwaymem_Same m_proto_Right m_spillwayref19_Right m_proto_RightAnswer m_spillwayref19_RightAnswer m_proto_All m_spillwayref18_Frame r a l K h

/-- frame.length -/
def g_frame_length (b : Sl) (K : Int → Bool → Heap → Prop) (h : Heap) : Prop :=
  bindI 0 fun t => 
  bindI 0 fun n => 
  slc b.ptr b.cap 1 0 (minV 4 (b.len : Int)) b.cap fun t1 => 
  loopM (σ := Int × Int × Unit) (fun J3 s h4 =>
    (fun (n2 : Int) (s13 : Int) =>
      iteP (decide (s13 < (t1.len : Int))) (
        idxA t1.ptr t1.len s13 1 fun b5 o => 
        ldI h4 b5 o .u8 fun t6 => 
        bindI t6 fun c => 
        need (0 ≤ (8 : Int)) <| 
        bindI (orV .i64 (shlV .i64 n2 8) (IntKind.wrap .i64 c)) fun n7 => 
        J3 (n7, IntKind.wrap .i64 (s13 + 1), ()) h4) (
        cutP (σ := Unit) (fun s27 h28 =>
          iteP (decide (n2 ≥ 1)) (
            bindI n2 fun t29 => 
            bindB (decide (n2 ≤ 4096)) fun t30 => 
            K t29 t30 h28) (
            bindI n2 fun t31 => 
            K t31 false h28)) (fun J8 =>
          bindB ((b.len : Int) == 0) fun t9 => 
          iteP t9 (
            iteP t9 (
              bindI n2 fun t10 => 
              bindB (n2 == 0) fun t11 => 
              K t10 t11 h4) (
              bindB ((b.len : Int) == 3) fun t12 => 
              iteP t12 (
                bindI n2 fun t13 => 
                bindB (decide (n2 ≤ 16)) fun t14 => 
                K t13 t14 h4) (
                J8 (()) h4))) (
            bindB ((b.len : Int) == 1) fun t15 => 
            iteP t15 (
              iteP t15 (
                bindI n2 fun t16 => 
                bindB (n2 == 0) fun t17 => 
                K t16 t17 h4) (
                bindB ((b.len : Int) == 3) fun t18 => 
                iteP t18 (
                  bindI n2 fun t19 => 
                  bindB (decide (n2 ≤ 16)) fun t20 => 
                  K t19 t20 h4) (
                  J8 (()) h4))) (
              bindB ((b.len : Int) == 2) fun t21 => 
              iteP t21 (
                bindI n2 fun t22 => 
                bindB (n2 == 0) fun t23 => 
                K t22 t23 h4) (
                bindB ((b.len : Int) == 3) fun t24 => 
                iteP t24 (
                  bindI n2 fun t25 => 
                  bindB (decide (n2 ≤ 16)) fun t26 => 
                  K t25 t26 h4) (
                  J8 (()) h4))))))) s.1 s.2.1) (n, 0, ()) h

def m_frame_length (b : Sl) (K : Int → Bool → Heap → Prop) (h : Heap) : Prop := g_frame_length b K h

/-- bytes.Clone -/
def g_bytes_Clone (b : Sl) (K : Sl → Heap → Prop) (h : Heap) : Prop :=
  iteP b.ptr.isNone (
    K ⟨none, 0, 0⟩ h) (
    newC h [] 5 fun b1 h2 => 
    rdS b 1 h2 fun new => app 5 1 1 [Value.int .u8 0] ⟨some ⟨b1, 0, none⟩, 0, 0⟩ b.len new h2 fun t h3 => 
    K t h3)

def m_bytes_Clone (b : Sl) (K : Sl → Heap → Prop) (h : Heap) : Prop := g_bytes_Clone b K h

/-- frame.Split -/
def g_frame_Split (f_frame_length : Sl → (Int → Bool → Heap → Prop) → Heap → Prop) (f_bytes_Clone : Sl → (Sl → Heap → Prop) → Heap → Prop) (b : Sl) (K : Sl → Int → Int → Heap → Prop) (h : Heap) : Prop :=
  bindI 0 fun t => 
  bindI 0 fun t1 => 
  bindI 0 fun at_ => 
  loopM (σ := Sl × Int × Unit) (fun J3 s h4 =>
    (fun (out : Sl) (at_2 : Int) =>
      iteP (decide (at_2 < (b.len : Int))) (
        slc b.ptr b.cap 1 at_2 b.len b.cap fun t5 => 
        f_frame_length t5 (fun t6 t7 h8 =>
          bindI t6 fun n => 
          bindB t7 fun ok => 
          bindB (!ok) fun t9 => 
          iteP t9 (
            bindI at_2 fun t10 => 
            bindI 50 fun t11 => 
            K out t10 t11 h8) (
            iteP (decide ((IntKind.wrap .i64 ((b.len : Int) - at_2)) < 4)) (
              bindI at_2 fun t12 => 
              bindI 24 fun t13 => 
              K out t12 t13 h8) (
              bindB (decide ((IntKind.wrap .i64 ((IntKind.wrap .i64 ((b.len : Int) - at_2)) - 4)) < n)) fun t14 => 
              iteP t14 (
                bindI at_2 fun t15 => 
                bindI 24 fun t16 => 
                K out t15 t16 h8) (
                slc b.ptr b.cap 1 (IntKind.wrap .i64 (at_2 + 4)) (IntKind.wrap .i64 ((IntKind.wrap .i64 (at_2 + 4)) + n)) (IntKind.wrap .i64 ((IntKind.wrap .i64 (at_2 + 4)) + n)) fun t17 => 
                f_bytes_Clone t17 (fun t18 h19 =>
                  newC h19 [Value.slice t18.ptr t18.len t18.cap] 22 fun b20 h21 => 
                  rdS ⟨some ⟨b20, 0, none⟩, 1, 1⟩ 1 h21 fun new => app 22 1 24 [Value.slice none 0 0] out 1 new h21 fun t22 h23 => 
                  bindI (IntKind.wrap .i64 (at_2 + (IntKind.wrap .i64 ((4 : Int) + n)))) fun at_24 => 
                  J3 (t22, at_24, ()) h23) h8)))) h4) (
        bindI at_2 fun t25 => 
        bindI 0 fun t26 => 
        K out t25 t26 h4)) s.1 s.2.1) (⟨none, 0, 0⟩, at_, ()) h

def m_frame_Split (b : Sl) (K : Sl → Int → Int → Heap → Prop) (h : Heap) : Prop := g_frame_Split m_frame_length m_bytes_Clone b K h

/-- spillwaylaw19.ProtoAll -/
def g_spillwaylaw19_ProtoAll (f_proto_All : Sl → (Sl → Int → Heap → Prop) → Heap → Prop) (f_spillwaylaw19_live : (Bool → Heap → Prop) → Heap → Prop) (f_frame_Split : Sl → (Sl → Int → Int → Heap → Prop) → Heap → Prop) (f_proto_ReadRequest : Sl → ((Int × Int × Int × Int × ByteArray × Int × Unit) → Int → Int → Heap → Prop) → Heap → Prop) (l : Sl) (K : Bool → Heap → Prop) (h : Heap) : Prop :=
  f_proto_All l (fun t t1 h2 =>
    bindI t1 fun e => 
    iteP (e != 0) (
      f_spillwaylaw19_live (fun t3 h4 =>
        iteP t3 (
          bindB ((t.len : Int) == 0) fun t5 => 
          K t5 h4) (
          K false h4)) h2) (
      f_frame_Split t (fun t6 t7 t8 h9 =>
        bindI t7 fun end_ => 
        bindI t8 fun f => 
        iteP (f != 0) (
          K false h9) (
          iteP (end_ != (t.len : Int)) (
            K false h9) (
            iteP ((t6.len : Int) != (l.len : Int)) (
              K false h9) (
              bindI 0 fun i => 
              loopM (σ := Int × Unit) (fun J11 s h12 =>
                (fun (i10 : Int) =>
                  iteP (decide (i10 < (t6.len : Int))) (
                    idxA t6.ptr t6.len i10 1 fun b o => 
                    ldL h12 b o fun t13 => 
                    f_proto_ReadRequest t13 (fun t14 t15 t16 h17 =>
                      newC h17 [Value.int .i64 0, Value.int .u8 0, Value.int .i64 0, Value.int .i64 0, Value.string (ByteArray.mk #[]), Value.int .i64 0] 26 fun b18 h19 => 
                      sts h19 b18 0 [Value.int .i64 t14.1, Value.int .u8 t14.2.1, Value.int .i64 t14.2.2.1, Value.int .i64 t14.2.2.2.1, Value.string t14.2.2.2.2.1, Value.int .i64 t14.2.2.2.2.2.1] fun h20 => 
                      bindI t15 fun g => 
                      bindI t16 fun _ => 
                      iteP (g != 0) (
                        K false h20) (
                        ldI h20 b18 0 .i64 fun t21 => ldI h20 b18 (0 + 1) .u8 fun t22 => ldI h20 b18 (0 + 2) .i64 fun t23 => ldI h20 b18 (0 + 3) .i64 fun t24 => ldS h20 b18 (0 + 4) fun t25 => ldI h20 b18 (0 + 5) .i64 fun t26 => 
                        idxA l.ptr l.len i10 6 fun b27 o28 => 
                        ldI h20 b27 o28 .i64 fun t29 => ldI h20 b27 (o28 + 1) .u8 fun t30 => ldI h20 b27 (o28 + 2) .i64 fun t31 => ldI h20 b27 (o28 + 3) .i64 fun t32 => ldS h20 b27 (o28 + 4) fun t33 => ldI h20 b27 (o28 + 5) .i64 fun t34 => 
                        iteP (!(bif t21 == t29 then (bif t22 == t30 then (bif t23 == t31 then (bif t24 == t32 then (bif strEq t25 t33 then (bif t26 == t34 then true else false) else false) else false) else false) else false) else false)) (
                          K false h20) (
                          bindI (IntKind.wrap .i64 (i10 + 1)) fun i35 => 
                          J11 (i35, ()) h20))) h12) (
                    f_spillwaylaw19_live (fun t36 h37 =>
                      bindB t36 fun t38 => 
                      K t38 h37) h12)) s.1) (i, ()) h9)))) h2)) h

def m_spillwaylaw19_ProtoAll (l : Sl) (K : Bool → Heap → Prop) (h : Heap) : Prop := g_spillwaylaw19_ProtoAll m_proto_All m_spillwaylaw19_live m_frame_Split m_proto_ReadRequest l K h

end Go.Proofs.Ytcgpdmlopbnpcaa
