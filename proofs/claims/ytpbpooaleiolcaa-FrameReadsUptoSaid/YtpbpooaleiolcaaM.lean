/- The models of the functions. Written by a program out of the translated functions. -/
import Derived.Test.YtpbpooaleiolcaaFwA
import GoSem.Machine.Frame
import GoSem.Op.String
namespace Go.Proofs.Ytpbpooaleiolcaa
open Go Go.Fw

/-- frame.Frame -/
def g_frame_Frame (payload : Sl) (K : Sl → Int → Heap → Prop) (h : Heap) : Prop :=
  bindI 0 fun t => 
  bindI (payload.len : Int) fun n => 
  bindB (decide (n > 4096)) fun t1 => 
  iteP t1 (
    bindI 5 fun t2 => 
    K ⟨none, 0, 0⟩ t2 h) (
    bindB (n == 0) fun t3 => 
    iteP t3 (
      bindI 6 fun t4 => 
      K ⟨none, 0, 0⟩ t4 h) (
      need (0 ≤ (24 : Int)) <| 
      need (0 ≤ (16 : Int)) <| 
      need (0 ≤ (8 : Int)) <| 
      newC h [Value.int .u8 (IntKind.wrap .u8 (shrV .i64 n 24)), Value.int .u8 (IntKind.wrap .u8 (shrV .i64 n 16)), Value.int .u8 (IntKind.wrap .u8 (shrV .i64 n 8)), Value.int .u8 (IntKind.wrap .u8 n)] 5 fun b h5 => 
      rdS payload 1 h5 fun new => app 5 1 1 [Value.int .u8 0] ⟨some ⟨b, 0, none⟩, 4, 4⟩ payload.len new h5 fun t6 h7 => 
      bindI 0 fun t8 => 
      K t6 t8 h7))

def m_frame_Frame (payload : Sl) (K : Sl → Int → Heap → Prop) (h : Heap) : Prop := g_frame_Frame payload K h

/-- frame.New -/
def g_frame_New (K : (Option Addr) → Heap → Prop) (h : Heap) : Prop :=
  newC h [Value.slice none 0 0, Value.bool false] 62 fun b h1 => 
  K (some ⟨b, 0, none⟩) h1

def m_frame_New (K : (Option Addr) → Heap → Prop) (h : Heap) : Prop := g_frame_New  K h

/-- bytes.Clone -/
def g_bytes_Clone (b : Sl) (K : Sl → Heap → Prop) (h : Heap) : Prop :=
  iteP b.ptr.isNone (
    K ⟨none, 0, 0⟩ h) (
    newC h [] 5 fun b1 h2 => 
    rdS b 1 h2 fun new => app 5 1 1 [Value.int .u8 0] ⟨some ⟨b1, 0, none⟩, 0, 0⟩ b.len new h2 fun t h3 => 
    K t h3)

def m_bytes_Clone (b : Sl) (K : Sl → Heap → Prop) (h : Heap) : Prop := g_bytes_Clone b K h

/-- frame.length -/
def g_frame_length (b : Sl) (K : Int → Bool → Heap → Prop) (h : Heap) : Prop :=
  bindI 0 fun t => 
  bindI 0 fun n => 
  slc b.ptr b.cap 1 0 (minV 4 (b.len : Int)) b.cap fun t1 => 
  loopM (σ := Int × Int × Unit) (fun J3 s h4 =>
    (fun (n2 : Int) (s13 : Int) =>
      iteP (decide (s13 < (t1.len : Int))) (
        idxA t1.ptr t1.len s13 1 fun b5 o => 
        ldI h4 b5 o .u8 fun t6 => 
        bindI t6 fun c => 
        need (0 ≤ (8 : Int)) <| 
        bindI (orV .i64 (shlV .i64 n2 8) (IntKind.wrap .i64 c)) fun n7 => 
        J3 (n7, IntKind.wrap .i64 (s13 + 1), ()) h4) (
        cutP (σ := Unit) (fun s27 h28 =>
          iteP (decide (n2 ≥ 1)) (
            bindI n2 fun t29 => 
            bindB (decide (n2 ≤ 4096)) fun t30 => 
            K t29 t30 h28) (
            bindI n2 fun t31 => 
            K t31 false h28)) (fun J8 =>
          bindB ((b.len : Int) == 0) fun t9 => 
          iteP t9 (
            iteP t9 (
              bindI n2 fun t10 => 
              bindB (n2 == 0) fun t11 => 
              K t10 t11 h4) (
              bindB ((b.len : Int) == 3) fun t12 => 
              iteP t12 (
                bindI n2 fun t13 => 
                bindB (decide (n2 ≤ 16)) fun t14 => 
                K t13 t14 h4) (
                J8 (()) h4))) (
            bindB ((b.len : Int) == 1) fun t15 => 
            iteP t15 (
              iteP t15 (
                bindI n2 fun t16 => 
                bindB (n2 == 0) fun t17 => 
                K t16 t17 h4) (
                bindB ((b.len : Int) == 3) fun t18 => 
                iteP t18 (
                  bindI n2 fun t19 => 
                  bindB (decide (n2 ≤ 16)) fun t20 => 
                  K t19 t20 h4) (
                  J8 (()) h4))) (
              bindB ((b.len : Int) == 2) fun t21 => 
              iteP t21 (
                bindI n2 fun t22 => 
                bindB (n2 == 0) fun t23 => 
                K t22 t23 h4) (
                bindB ((b.len : Int) == 3) fun t24 => 
                iteP t24 (
                  bindI n2 fun t25 => 
                  bindB (decide (n2 ≤ 16)) fun t26 => 
                  K t25 t26 h4) (
                  J8 (()) h4))))))) s.1 s.2.1) (n, 0, ()) h

def m_frame_length (b : Sl) (K : Int → Bool → Heap → Prop) (h : Heap) : Prop := g_frame_length b K h

/-- (*frame.Reader).Put -/
def g_frame_Reader_Put (f_bytes_Clone : Sl → (Sl → Heap → Prop) → Heap → Prop) (f_frame_length : Sl → (Int → Bool → Heap → Prop) → Heap → Prop) (r : Option Addr) (b : Sl) (K : Sl → Int → Heap → Prop) (h : Heap) : Prop :=
  bindI 0 fun t => 
  bindB r.isNone fun t1 => 
  iteP t1 (
    bindI 1 fun t2 => 
    K ⟨none, 0, 0⟩ t2 h) (
    derefP r fun b3 o => 
    ldB h b3 (o + 1) fun t4 => 
    bindB t4 fun t5 => 
    iteP t5 (
      bindI 50 fun t6 => 
      K ⟨none, 0, 0⟩ t6 h) (
      derefP r fun b7 o8 => 
      ldL h b7 o8 fun t9 => 
      f_bytes_Clone t9 (fun t10 h11 =>
        rdS b 1 h11 fun new => app 5 1 1 [Value.int .u8 0] t10 b.len new h11 fun t12 h13 => 
        cutP (σ := Sl × Sl × Unit) (fun s38 h39 =>
          (fun (all36 : Sl) (out37 : Sl) =>
            derefP r fun b40 o41 => 
            st h39 b40 o41 (Value.slice all36.ptr all36.len all36.cap) fun h42 => 
            bindI 0 fun t43 => 
            K out37 t43 h42) s38.1 s38.2.1) (fun J14 =>
          loopM (σ := Sl × Sl × Unit) (fun J15 s h16 =>
            (fun (all : Sl) (out : Sl) =>
              iteP (decide ((all.len : Int) ≥ 4)) (
                f_frame_length all (fun t17 t18 h19 =>
                  bindI t17 fun n => 
                  bindB t18 fun ok => 
                  iteP (!ok) (
                    derefP r fun b20 o21 => 
                    st h19 b20 o21 (Value.slice none 0 0) fun h22 => 
                    derefP r fun b23 o24 => 
                    st h22 b23 (o24 + 1) (Value.bool true) fun h25 => 
                    bindI 50 fun t26 => 
                    K out t26 h25) (
                    iteP (decide ((IntKind.wrap .i64 ((all.len : Int) - 4)) < n)) (
                      J14 (all, out, ()) h19) (
                      slc all.ptr all.cap 1 4 (IntKind.wrap .i64 ((4 : Int) + n)) all.cap fun t27 => 
                      f_bytes_Clone t27 (fun t28 h29 =>
                        newC h29 [Value.slice t28.ptr t28.len t28.cap] 29 fun b30 h31 => 
                        rdS ⟨some ⟨b30, 0, none⟩, 1, 1⟩ 1 h31 fun new34 => app 29 1 24 [Value.slice none 0 0] out 1 new34 h31 fun t32 h33 => 
                        slc all.ptr all.cap 1 (IntKind.wrap .i64 ((4 : Int) + n)) all.len all.cap fun t35 => 
                        J15 (t35, t32, ()) h33) h19))) h16) (
                J14 (all, out, ()) h16)) s.1 s.2.1) (t12, ⟨none, 0, 0⟩, ()) h13)) h))

def m_frame_Reader_Put (r : Option Addr) (b : Sl) (K : Sl → Int → Heap → Prop) (h : Heap) : Prop := g_frame_Reader_Put m_bytes_Clone m_frame_length r b K h

/-- (*frame.Reader).Missing -/
def g_frame_Reader_Missing (f_frame_length : Sl → (Int → Bool → Heap → Prop) → Heap → Prop) (r : Option Addr) (K : Int → Heap → Prop) (h : Heap) : Prop :=
  bindI 0 fun t => 
  iteP r.isNone (
    bindI 0 fun t1 => 
    K t1 h) (
    derefP r fun b o => 
    ldB h b (o + 1) fun t2 => 
    bindB t2 fun t3 => 
    iteP t3 (
      bindI 0 fun t4 => 
      K t4 h) (
      derefP r fun b5 o6 => 
      ldL h b5 o6 fun t7 => 
      bindB (decide ((t7.len : Int) < 4)) fun t8 => 
      iteP t8 (
        derefP r fun b9 o10 => 
        ldL h b9 o10 fun t11 => 
        bindI (IntKind.wrap .i64 ((4 : Int) - (t11.len : Int))) fun t12 => 
        K t12 h) (
        derefP r fun b13 o14 => 
        ldL h b13 o14 fun t15 => 
        f_frame_length t15 (fun t16 t17 h18 =>
          bindI t16 fun n => 
          bindB t17 fun _ => 
          derefP r fun b19 o20 => 
          ldL h18 b19 o20 fun t21 => 
          bindI (IntKind.wrap .i64 ((IntKind.wrap .i64 ((4 : Int) + n)) - (t21.len : Int))) fun t22 => 
          K t22 h18) h)))

def m_frame_Reader_Missing (r : Option Addr) (K : Int → Heap → Prop) (h : Heap) : Prop := g_frame_Reader_Missing m_frame_length r K h

/-- spillwaymem.Same -/
def g_spillwaymem_Same (a : Sl) (b : Sl) (K : Bool → Heap → Prop) (h : Heap) : Prop :=
  iteP ((a.len : Int) != (b.len : Int)) (
    K false h) (
    bindI 0 fun i => 
    loopM (σ := Int × Unit) (fun J2 s h3 =>
      (fun (i1 : Int) =>
        iteP (decide (i1 < (a.len : Int))) (
          idxA a.ptr a.len i1 1 fun b4 o => 
          ldI h3 b4 o .u8 fun t => 
          idxA b.ptr b.len i1 1 fun b5 o6 => 
          ldI h3 b5 o6 .u8 fun t7 => 
          iteP (t != t7) (
            K false h3) (
            bindI (IntKind.wrap .i64 (i1 + 1)) fun i8 => 
            J2 (i8, ()) h3)) (
          K true h3)) s.1) (i, ()) h)

def m_spillwaymem_Same (a : Sl) (b : Sl) (K : Bool → Heap → Prop) (h : Heap) : Prop := g_spillwaymem_Same a b K h

/-- (*frame.Reader).Broken -/
def g_frame_Reader_Broken (r : Option Addr) (K : Bool → Heap → Prop) (h : Heap) : Prop :=
  iteP r.isSome (
    derefP r fun b o => 
    ldB h b (o + 1) fun t => 
    bindB t fun t1 => 
    K t1 h) (
    K false h)

def m_frame_Reader_Broken (r : Option Addr) (K : Bool → Heap → Prop) (h : Heap) : Prop := g_frame_Reader_Broken r K h

/-- spillwaylaw18.live -/
def g_spillwaylaw18_live (f_frame_Frame : Sl → (Sl → Int → Heap → Prop) → Heap → Prop) (f_frame_New : ((Option Addr) → Heap → Prop) → Heap → Prop) (f_frame_Reader_Put : (Option Addr) → Sl → (Sl → Int → Heap → Prop) → Heap → Prop) (f_frame_Reader_Missing : (Option Addr) → (Int → Heap → Prop) → Heap → Prop) (f_spillwaymem_Same : Sl → Sl → (Bool → Heap → Prop) → Heap → Prop) (f_frame_Reader_Broken : (Option Addr) → (Bool → Heap → Prop) → Heap → Prop) (K : Bool → Heap → Prop) (h : Heap) : Prop :=
  newC h [Value.int .u8 97, Value.int .u8 98] 5 fun b h1 => 
  mark8 (some ⟨b, 0, none⟩) h1 fun h2 => 
  f_frame_Frame ⟨some ⟨b, 0, none⟩, 2, 2⟩ (fun t t3 h4 =>
    bindI t3 fun e => 
    f_frame_New (fun t5 h6 =>
      newC h6 [Value.int .u8 0, Value.int .u8 0, Value.int .u8 0, Value.int .u8 2, Value.int .u8 97] 5 fun b7 h8 => 
      f_frame_Reader_Put t5 ⟨some ⟨b7, 0, none⟩, 5, 5⟩ (fun t9 t10 h11 =>
        bindI t10 fun f => 
        iteP ((t9.len : Int) != 0) (
          K false h11) (
          f_frame_Reader_Missing t5 (fun t12 h13 =>
            iteP (t12 != 1) (
              K false h13) (
              newC h13 [Value.int .u8 98] 5 fun b14 h15 => 
              f_frame_Reader_Put t5 ⟨some ⟨b14, 0, none⟩, 1, 1⟩ (fun t16 t17 h18 =>
                bindI t17 fun g => 
                newC h18 [Value.int .u8 0, Value.int .u8 0, Value.int .u8 0, Value.int .u8 0] 5 fun b19 h20 => 
                f_frame_Reader_Put t5 ⟨some ⟨b19, 0, none⟩, 4, 4⟩ (fun t21 t22 h23 =>
                  bindI t22 fun h24 => 
                  iteP (e == 0) (
                    newC h23 [Value.int .u8 0, Value.int .u8 0, Value.int .u8 0, Value.int .u8 2, Value.int .u8 97, Value.int .u8 98] 5 fun b25 h26 => 
                    f_spillwaymem_Same t ⟨some ⟨b25, 0, none⟩, 6, 6⟩ (fun t27 h28 =>
                      iteP t27 (
                        iteP (f == 0) (
                          iteP (g == 0) (
                            iteP ((t16.len : Int) == 1) (
                              idxA t16.ptr t16.len 0 1 fun b29 o => 
                              ldL h28 b29 o fun t30 => 
                              b2s t30 h28 fun t31 => 
                              iteP (strEq t31 (ByteArray.mk #[97, 98])) (
                                iteP (h24 == 50) (
                                  f_frame_Reader_Broken t5 (fun t32 h33 =>
                                    bindB t32 fun t34 => 
                                    K t34 h33) h28) (
                                  K false h28)) (
                                K false h28)) (
                              K false h28)) (
                            K false h28)) (
                          K false h28)) (
                        K false h28)) h26) (
                    K false h23)) h20) h15)) h11)) h8) h4) h2

def m_spillwaylaw18_live (K : Bool → Heap → Prop) (h : Heap) : Prop := g_spillwaylaw18_live m_frame_Frame m_frame_New m_frame_Reader_Put m_frame_Reader_Missing m_spillwaymem_Same m_frame_Reader_Broken  K h

/-- (*frame.Reader).Left -/
def g_frame_Reader_Left (r : Option Addr) (K : Int → Heap → Prop) (h : Heap) : Prop :=
  bindI 0 fun t => 
  iteP r.isNone (
    bindI 0 fun t1 => 
    K t1 h) (
    derefP r fun b o => 
    ldL h b o fun t2 => 
    bindI (t2.len : Int) fun t3 => 
    K t3 h)

def m_frame_Reader_Left (r : Option Addr) (K : Int → Heap → Prop) (h : Heap) : Prop := g_frame_Reader_Left r K h

/-- spillwaylaw18.FrameBounded -/
def g_spillwaylaw18_FrameBounded (f_spillwaylaw18_live : (Bool → Heap → Prop) → Heap → Prop) (f_frame_New : ((Option Addr) → Heap → Prop) → Heap → Prop) (f_frame_Reader_Broken : (Option Addr) → (Bool → Heap → Prop) → Heap → Prop) (f_frame_Reader_Put : (Option Addr) → Sl → (Sl → Int → Heap → Prop) → Heap → Prop) (f_frame_Reader_Left : (Option Addr) → (Int → Heap → Prop) → Heap → Prop) (pieces : Sl) (K : Bool → Heap → Prop) (h : Heap) : Prop :=
  f_spillwaylaw18_live (fun t h1 =>
    iteP (!t) (
      K false h1) (
      f_frame_New (fun t2 h3 =>
        bindI 0 fun i => 
        loopM (σ := Int × Unit) (fun J5 s h6 =>
          (fun (i4 : Int) =>
            iteP (decide (i4 < (pieces.len : Int))) (
              f_frame_Reader_Broken t2 (fun t7 h8 =>
                bindB t7 fun was => 
                idxA pieces.ptr pieces.len i4 1 fun b o => 
                ldL h8 b o fun t9 => 
                f_frame_Reader_Put t2 t9 (fun t10 t11 h12 =>
                  bindI t11 fun e => 
                  cutP (σ := Unit) (fun s32 h33 =>
                    bindI 0 fun k => 
                    loopM (σ := Int × Unit) (fun J35 s36 h37 =>
                      (fun (k34 : Int) =>
                        iteP (decide (k34 < (t10.len : Int))) (
                          idxA t10.ptr t10.len k34 1 fun b38 o39 => 
                          ldL h37 b38 o39 fun t40 => 
                          iteP (decide ((t40.len : Int) < 1)) (
                            K false h37) (
                            idxA t10.ptr t10.len k34 1 fun b41 o42 => 
                            ldL h37 b41 o42 fun t43 => 
                            iteP (decide ((t43.len : Int) > 4096)) (
                              K false h37) (
                              bindI (IntKind.wrap .i64 (k34 + 1)) fun k44 => 
                              J35 (k44, ()) h37))) (
                          bindI (IntKind.wrap .i64 (i4 + 1)) fun i45 => 
                          J5 (i45, ()) h37)) s36.1) (k, ()) h33) (fun J13 =>
                    iteP was (
                      iteP ((t10.len : Int) != 0) (
                        K false h12) (
                        iteP (e != 50) (
                          K false h12) (
                          f_frame_Reader_Broken t2 (fun t14 h15 =>
                            iteP (!t14) (
                              K false h15) (
                              f_frame_Reader_Left t2 (fun t16 h17 =>
                                iteP (decide (t16 > 4099)) (
                                  K false h17) (
                                  f_frame_Reader_Left t2 (fun t18 h19 =>
                                    iteP (decide (t18 < 0)) (
                                      K false h19) (
                                      f_frame_Reader_Broken t2 (fun t20 h21 =>
                                        iteP t20 (
                                          f_frame_Reader_Left t2 (fun t22 h23 =>
                                            iteP (t22 != 0) (
                                              K false h23) (
                                              iteP (e != 50) (
                                                K false h23) (
                                                J13 (()) h23))) h21) (
                                          J13 (()) h21)) h19)) h17)) h15)) h12))) (
                      f_frame_Reader_Left t2 (fun t24 h25 =>
                        iteP (decide (t24 > 4099)) (
                          K false h25) (
                          f_frame_Reader_Left t2 (fun t26 h27 =>
                            iteP (decide (t26 < 0)) (
                              K false h27) (
                              f_frame_Reader_Broken t2 (fun t28 h29 =>
                                iteP t28 (
                                  f_frame_Reader_Left t2 (fun t30 h31 =>
                                    iteP (t30 != 0) (
                                      K false h31) (
                                      iteP (e != 50) (
                                        K false h31) (
                                        J13 (()) h31))) h29) (
                                  J13 (()) h29)) h27)) h25)) h12))) h8) h6) (
              K true h6)) s.1) (i, ()) h3) h1)) h

def m_spillwaylaw18_FrameBounded (pieces : Sl) (K : Bool → Heap → Prop) (h : Heap) : Prop := g_spillwaylaw18_FrameBounded m_spillwaylaw18_live m_frame_New m_frame_Reader_Broken m_frame_Reader_Put m_frame_Reader_Left pieces K h

/-- spillwayref18.New -/
def g_spillwayref18_New (K : (Option Addr) → Heap → Prop) (h : Heap) : Prop :=
  newC h [Value.slice none 0 0, Value.bool false] 66 fun b h1 => 
  K (some ⟨b, 0, none⟩) h1

def m_spillwayref18_New (K : (Option Addr) → Heap → Prop) (h : Heap) : Prop := g_spillwayref18_New  K h

/-- (*frame.Reader).Reset -/
def g_frame_Reader_Reset (r : Option Addr) (K : Heap → Prop) (h : Heap) : Prop :=
  iteP r.isSome (
    derefP r fun b o => 
    st h b o (Value.slice none 0 0) fun h1 => 
    derefP r fun b2 o3 => 
    st h1 b2 (o3 + 1) (Value.bool false) fun h4 => 
    K h4) (
    K h)

def m_frame_Reader_Reset (r : Option Addr) (K : Heap → Prop) (h : Heap) : Prop := g_frame_Reader_Reset r K h

/-- (*frame.Reader).Fork -/
def g_frame_Reader_Fork (f_bytes_Clone : Sl → (Sl → Heap → Prop) → Heap → Prop) (r : Option Addr) (K : (Option Addr) → Heap → Prop) (h : Heap) : Prop :=
  iteP r.isNone (
    K none h) (
    derefP r fun b o => 
    derefP r fun b1 o2 => 
    ldL h b o fun t => 
    ldB h b1 (o2 + 1) fun t3 => 
    f_bytes_Clone t (fun t4 h5 =>
      heldC h5 [(b1, o2 + 1, Value.bool t3)] <|
      newC h5 [Value.slice t4.ptr t4.len t4.cap, Value.bool t3] 62 fun b6 h7 => 
      heldC h7 [(b1, o2 + 1, Value.bool t3)] <|
      K (some ⟨b6, 0, none⟩) h7) h)

def m_frame_Reader_Fork (r : Option Addr) (K : (Option Addr) → Heap → Prop) (h : Heap) : Prop := g_frame_Reader_Fork m_bytes_Clone r K h

/-- (*spillwayref18.Reader).Fork -/
def g_spillwayref18_Reader_Fork (r : Option Addr) (K : (Option Addr) → Heap → Prop) (h : Heap) : Prop :=
  iteP r.isNone (
    K none h) (
    derefP r fun b o => 
    derefP r fun b1 o2 => 
    ldL h b o fun t => 
    ldB h b1 (o2 + 1) fun t3 => 
    newC h [] 5 fun b4 h5 => 
    heldC h5 [(b1, o2 + 1, Value.bool t3)] <|
    heldC h5 [(b, o, Value.slice t.ptr t.len t.cap)] <|
    rdS t 1 h5 fun new => app 5 1 1 [Value.int .u8 0] ⟨some ⟨b4, 0, none⟩, 0, 0⟩ t.len new h5 fun t6 h7 => 
    heldC h7 [(b1, o2 + 1, Value.bool t3)] <|
    newC h7 [Value.slice t6.ptr t6.len t6.cap, Value.bool t3] 66 fun b8 h9 => 
    heldC h9 [(b1, o2 + 1, Value.bool t3)] <|
    K (some ⟨b8, 0, none⟩) h9)

def m_spillwayref18_Reader_Fork (r : Option Addr) (K : (Option Addr) → Heap → Prop) (h : Heap) : Prop := g_spillwayref18_Reader_Fork r K h

/-- spillwaymem.Hand -/
def g_spillwaymem_Hand (l : Sl) (K : Sl → Heap → Prop) (h : Heap) : Prop :=
  mkS 5 1 [Value.int .u8 0] (IntKind.wrap .i64 ((l.len : Int) + 9)) (IntKind.wrap .i64 ((l.len : Int) + 9)) h fun t h1 => 
  bindI 0 fun i => 
  loopM (σ := Int × Unit) (fun J3 s h4 =>
    (fun (i2 : Int) =>
      iteP (decide (i2 < (l.len : Int))) (
        idxA l.ptr l.len i2 1 fun b o => 
        ldI h4 b o .u8 fun t5 => 
        idxA t.ptr t.len i2 1 fun b6 o7 => 
        st h4 b6 o7 (Value.int .u8 t5) fun h8 => 
        bindI (IntKind.wrap .i64 (i2 + 1)) fun i9 => 
        J3 (i9, ()) h8) (
        bindI (l.len : Int) fun i10 => 
        loopM (σ := Int × Unit) (fun J12 s13 h14 =>
          (fun (i11 : Int) =>
            iteP (decide (i11 < (t.len : Int))) (
              idxA t.ptr t.len i11 1 fun b15 o16 => 
              st h14 b15 o16 (Value.int .u8 (IntKind.wrap .u8 (IntKind.wrap .i64 ((IntKind.wrap .i64 ((160 : Int) + i11)) - (l.len : Int))))) fun h17 => 
              bindI (IntKind.wrap .i64 (i11 + 1)) fun i18 => 
              J12 (i18, ()) h17) (
              slc t.ptr t.cap 1 0 (l.len : Int) t.cap fun t19 => 
              K t19 h14)) s13.1) (i10, ()) h4)) s.1) (i, ()) h1

def m_spillwaymem_Hand (l : Sl) (K : Sl → Heap → Prop) (h : Heap) : Prop := g_spillwaymem_Hand l K h

/-- spillwayref18.could -/
def g_spillwayref18_could (b : Sl) (K : Bool → Heap → Prop) (h : Heap) : Prop :=
  bindI 0 fun n => 
  bindI 0 fun i => 
  loopM (σ := Int × Int × Unit) (fun J3 s h4 =>
    (fun (n1 : Int) (i2 : Int) =>
      iteP (decide (i2 < 4)) (
        bindI (IntKind.wrap .i64 (n1 * 256)) fun n5 => 
        iteP (decide (i2 < (b.len : Int))) (
          idxA b.ptr b.len i2 1 fun b6 o => 
          ldI h4 b6 o .u8 fun t => 
          bindI (IntKind.wrap .i64 (n5 + (IntKind.wrap .i64 t))) fun n7 => 
          bindI (IntKind.wrap .i64 (i2 + 1)) fun i8 => 
          J3 (n7, i8, ()) h4) (
          bindI (IntKind.wrap .i64 (i2 + 1)) fun i9 => 
          J3 (n5, i9, ()) h4)) (
        iteP (decide ((b.len : Int) < 4)) (
          bindB (decide (n1 ≤ 4096)) fun t10 => 
          K t10 h4) (
          iteP (decide (n1 ≥ 1)) (
            bindB (decide (n1 ≤ 4096)) fun t11 => 
            K t11 h4) (
            K false h4)))) s.1 s.2.1) (n, i, ()) h

def m_spillwayref18_could (b : Sl) (K : Bool → Heap → Prop) (h : Heap) : Prop := g_spillwayref18_could b K h

/-- spillwayref18.Split -/
def g_spillwayref18_Split (f_spillwayref18_could : Sl → (Bool → Heap → Prop) → Heap → Prop) (b : Sl) (K : Sl → Int → Int → Heap → Prop) (h : Heap) : Prop :=
  bindI 0 fun t => 
  bindI 0 fun t1 => 
  bindI 0 fun at_ => 
  loopM (σ := Sl × Int × Unit) (fun J3 s h4 =>
    (fun (out : Sl) (at_2 : Int) =>
      iteP (decide (at_2 < (b.len : Int))) (
        slc b.ptr b.cap 1 at_2 b.len b.cap fun t5 => 
        cutP (σ := Sl × Unit) (fun s8 h9 =>
          (fun (head : Sl) =>
            f_spillwayref18_could head (fun t10 h11 =>
              iteP (!t10) (
                bindI at_2 fun t12 => 
                bindI 50 fun t13 => 
                K out t12 t13 h11) (
                iteP (decide ((head.len : Int) < 4)) (
                  bindI at_2 fun t14 => 
                  bindI 24 fun t15 => 
                  K out t14 t15 h11) (
                  idxA head.ptr head.len 2 1 fun b16 o => 
                  ldI h11 b16 o .u8 fun t17 => 
                  need (0 ≤ (8 : Int)) <| 
                  idxA head.ptr head.len 3 1 fun b18 o19 => 
                  ldI h11 b18 o19 .u8 fun t20 => 
                  bindI (orV .i64 (shlV .i64 (IntKind.wrap .i64 t17) 8) (IntKind.wrap .i64 t20)) fun n => 
                  iteP (decide ((IntKind.wrap .i64 ((b.len : Int) - at_2)) < (IntKind.wrap .i64 ((4 : Int) + n)))) (
                    bindI at_2 fun t21 => 
                    bindI 24 fun t22 => 
                    K out t21 t22 h11) (
                    slc b.ptr b.cap 1 (IntKind.wrap .i64 (at_2 + 4)) (IntKind.wrap .i64 ((IntKind.wrap .i64 (at_2 + 4)) + n)) b.cap fun t23 => 
                    newC h11 [Value.slice t23.ptr t23.len t23.cap] 29 fun b24 h25 => 
                    rdS ⟨some ⟨b24, 0, none⟩, 1, 1⟩ 1 h25 fun new => app 29 1 24 [Value.slice none 0 0] out 1 new h25 fun t26 h27 => 
                    bindI (IntKind.wrap .i64 (at_2 + (IntKind.wrap .i64 ((4 : Int) + n)))) fun at_28 => 
                    J3 (t26, at_28, ()) h27)))) h9) s8.1) (fun J6 =>
          iteP (decide ((t5.len : Int) > 4)) (
            slc t5.ptr t5.cap 1 0 4 t5.cap fun t7 => 
            J6 (t7, ()) h4) (
            J6 (t5, ()) h4))) (
        bindI at_2 fun t29 => 
        bindI 0 fun t30 => 
        K out t29 t30 h4)) s.1 s.2.1) (⟨none, 0, 0⟩, at_, ()) h

def m_spillwayref18_Split (b : Sl) (K : Sl → Int → Int → Heap → Prop) (h : Heap) : Prop := g_spillwayref18_Split m_spillwayref18_could b K h

/-- (*spillwayref18.Reader).Put -/
def g_spillwayref18_Reader_Put (f_spillwayref18_Split : Sl → (Sl → Int → Int → Heap → Prop) → Heap → Prop) (r : Option Addr) (b : Sl) (K : Sl → Int → Heap → Prop) (h : Heap) : Prop :=
  bindI 0 fun t => 
  iteP r.isNone (
    bindI 1 fun t1 => 
    K ⟨none, 0, 0⟩ t1 h) (
    derefP r fun b2 o => 
    ldB h b2 (o + 1) fun t3 => 
    iteP t3 (
      bindI 50 fun t4 => 
      K ⟨none, 0, 0⟩ t4 h) (
      newC h [] 5 fun b5 h6 => 
      derefP r fun b7 o8 => 
      ldL h6 b7 o8 fun t9 => 
      rdS t9 1 h6 fun new => app 5 1 1 [Value.int .u8 0] ⟨some ⟨b5, 0, none⟩, 0, 0⟩ t9.len new h6 fun t10 h11 => 
      rdS b 1 h11 fun new14 => app 5 1 1 [Value.int .u8 0] t10 b.len new14 h11 fun t12 h13 => 
      f_spillwayref18_Split t12 (fun t15 t16 t17 h18 =>
        bindI t16 fun at_ => 
        bindI t17 fun e => 
        slc t12.ptr t12.cap 1 at_ t12.len t12.cap fun t19 => 
        derefP r fun b20 o21 => 
        st h18 b20 o21 (Value.slice t19.ptr t19.len t19.cap) fun h22 => 
        iteP (e == 50) (
          derefP r fun b23 o24 => 
          ldL h22 b23 o24 fun t25 => 
          iteP (decide ((t25.len : Int) ≥ 4)) (
            derefP r fun b26 o27 => 
            st h22 b26 o27 (Value.slice none 0 0) fun h28 => 
            derefP r fun b29 o30 => 
            st h28 b29 (o30 + 1) (Value.bool true) fun h31 => 
            bindI 50 fun t32 => 
            K t15 t32 h31) (
            bindI 0 fun t33 => 
            K t15 t33 h22)) (
          bindI 0 fun t34 => 
          K t15 t34 h22)) h13))

def m_spillwayref18_Reader_Put (r : Option Addr) (b : Sl) (K : Sl → Int → Heap → Prop) (h : Heap) : Prop := g_spillwayref18_Reader_Put m_spillwayref18_Split r b K h

/-- spillwaymem.SamePayloads -/
def g_spillwaymem_SamePayloads (f_spillwaymem_Same : Sl → Sl → (Bool → Heap → Prop) → Heap → Prop) (a : Sl) (b : Sl) (K : Bool → Heap → Prop) (h : Heap) : Prop :=
  iteP ((a.len : Int) != (b.len : Int)) (
    K false h) (
    bindI 0 fun i => 
    loopM (σ := Int × Unit) (fun J2 s h3 =>
      (fun (i1 : Int) =>
        iteP (decide (i1 < (a.len : Int))) (
          idxA a.ptr a.len i1 1 fun b4 o => 
          ldL h3 b4 o fun t => 
          idxA b.ptr b.len i1 1 fun b5 o6 => 
          ldL h3 b5 o6 fun t7 => 
          qcall (ρ := Bool × Unit) (fun K h => f_spillwaymem_Same t t7 (fun q h => K (q, ()) h) h) h3 fun r => 
          iteP (!r.1) (
            K false h3) (
            bindI (IntKind.wrap .i64 (i1 + 1)) fun i9 => 
            J2 (i9, ()) h3)) (
          K true h3)) s.1) (i, ()) h)

def m_spillwaymem_SamePayloads (a : Sl) (b : Sl) (K : Bool → Heap → Prop) (h : Heap) : Prop := g_spillwaymem_SamePayloads m_spillwaymem_Same a b K h

/-- (*spillwayref18.Reader).Left -/
def g_spillwayref18_Reader_Left (r : Option Addr) (K : Int → Heap → Prop) (h : Heap) : Prop :=
  bindI 0 fun t => 
  iteP r.isNone (
    bindI 0 fun t1 => 
    K t1 h) (
    derefP r fun b o => 
    ldL h b o fun t2 => 
    bindI (t2.len : Int) fun t3 => 
    K t3 h)

def m_spillwayref18_Reader_Left (r : Option Addr) (K : Int → Heap → Prop) (h : Heap) : Prop := g_spillwayref18_Reader_Left r K h

/-- (*spillwayref18.Reader).Missing -/
def g_spillwayref18_Reader_Missing (r : Option Addr) (K : Int → Heap → Prop) (h : Heap) : Prop :=
  bindI 0 fun t => 
  iteP r.isNone (
    bindI 0 fun t1 => 
    K t1 h) (
    derefP r fun b o => 
    ldB h b (o + 1) fun t2 => 
    iteP t2 (
      bindI 0 fun t3 => 
      K t3 h) (
      derefP r fun b4 o5 => 
      ldL h b4 o5 fun t6 => 
      iteP (decide ((t6.len : Int) < 4)) (
        derefP r fun b7 o8 => 
        ldL h b7 o8 fun t9 => 
        bindI (IntKind.wrap .i64 ((4 : Int) - (t9.len : Int))) fun t10 => 
        K t10 h) (
        derefP r fun b11 o12 => 
        ldL h b11 o12 fun t13 => 
        idxA t13.ptr t13.len 2 1 fun b14 o15 => 
        ldI h b14 o15 .u8 fun t16 => 
        need (0 ≤ (8 : Int)) <| 
        derefP r fun b17 o18 => 
        ldL h b17 o18 fun t19 => 
        idxA t19.ptr t19.len 3 1 fun b20 o21 => 
        ldI h b20 o21 .u8 fun t22 => 
        derefP r fun b23 o24 => 
        ldL h b23 o24 fun t25 => 
        bindI (IntKind.wrap .i64 ((IntKind.wrap .i64 ((IntKind.wrap .i64 ((4 : Int) + (shlV .i64 (IntKind.wrap .i64 t16) 8))) + (IntKind.wrap .i64 t22))) - (t25.len : Int))) fun t26 => 
        K t26 h)))

def m_spillwayref18_Reader_Missing (r : Option Addr) (K : Int → Heap → Prop) (h : Heap) : Prop := g_spillwayref18_Reader_Missing r K h

/-- (*spillwayref18.Reader).Broken -/
def g_spillwayref18_Reader_Broken (r : Option Addr) (K : Bool → Heap → Prop) (h : Heap) : Prop :=
  iteP r.isSome (
    derefP r fun b o => 
    ldB h b (o + 1) fun t => 
    bindB t fun t1 => 
    K t1 h) (
    K false h)

def m_spillwayref18_Reader_Broken (r : Option Addr) (K : Bool → Heap → Prop) (h : Heap) : Prop := g_spillwayref18_Reader_Broken r K h

/-- spillwaymem.Kept -/
def g_spillwaymem_Kept (f_spillwaymem_Same : Sl → Sl → (Bool → Heap → Prop) → Heap → Prop) (in_ : Sl) (l : Sl) (K : Bool → Heap → Prop) (h : Heap) : Prop :=
  f_spillwaymem_Same in_ l (fun t h1 =>
    iteP (!t) (
      K false h1) (
      slc in_.ptr in_.cap 1 0 (IntKind.wrap .i64 ((l.len : Int) + 9)) in_.cap fun t2 => 
      bindI (l.len : Int) fun i => 
      loopM (σ := Int × Unit) (fun J4 s h5 =>
        (fun (i3 : Int) =>
          iteP (decide (i3 < (t2.len : Int))) (
            idxA t2.ptr t2.len i3 1 fun b o => 
            ldI h5 b o .u8 fun t6 => 
            iteP (t6 != (IntKind.wrap .u8 (IntKind.wrap .i64 ((IntKind.wrap .i64 ((160 : Int) + i3)) - (l.len : Int))))) (
              K false h5) (
              bindI (IntKind.wrap .i64 (i3 + 1)) fun i7 => 
              J4 (i7, ()) h5)) (
            K true h5)) s.1) (i, ()) h1)) h

def m_spillwaymem_Kept (in_ : Sl) (l : Sl) (K : Bool → Heap → Prop) (h : Heap) : Prop := g_spillwaymem_Kept m_spillwaymem_Same in_ l K h

/-- (*spillwaymem.Book).TakeBytes -/
def g_spillwaymem_Book_TakeBytes (b : Option Addr) (l : Sl) (K : Heap → Prop) (h : Heap) : Prop :=
  derefP b fun b1 o => 
  ldL h b1 o fun t => 
  newC h [Value.slice l.ptr l.len l.cap] 29 fun b2 h3 => 
  rdS ⟨some ⟨b2, 0, none⟩, 1, 1⟩ 1 h3 fun new => app 29 1 24 [Value.slice none 0 0] t 1 new h3 fun t4 h5 => 
  derefP b fun b6 o7 => 
  st h5 b6 o7 (Value.slice t4.ptr t4.len t4.cap) fun h8 => 
  K h8

def m_spillwaymem_Book_TakeBytes (b : Option Addr) (l : Sl) (K : Heap → Prop) (h : Heap) : Prop := g_spillwaymem_Book_TakeBytes b l K h

/-- (*spillwaymem.Book).TakePayloads -/
def g_spillwaymem_Book_TakePayloads (f_spillwaymem_Book_TakeBytes : (Option Addr) → Sl → (Heap → Prop) → Heap → Prop) (b : Option Addr) (l : Sl) (K : Heap → Prop) (h : Heap) : Prop :=
  bindI 0 fun i => 
  loopM (σ := Int × Unit) (fun J2 s h3 =>
    (fun (i1 : Int) =>
      iteP (decide (i1 < (l.len : Int))) (
        idxA l.ptr l.len i1 1 fun b4 o => 
        ldL h3 b4 o fun t => 
        f_spillwaymem_Book_TakeBytes b t (fun h5 =>
          bindI (IntKind.wrap .i64 (i1 + 1)) fun i6 => 
          J2 (i6, ()) h5) h3) (
        K h3)) s.1) (i, ()) h

def m_spillwaymem_Book_TakePayloads (b : Option Addr) (l : Sl) (K : Heap → Prop) (h : Heap) : Prop := g_spillwaymem_Book_TakePayloads m_spillwaymem_Book_TakeBytes b l K h

/-- (*spillwaymem.Book).aloneBytes -/
def g_spillwaymem_Book_aloneBytes (b : Option Addr) (K : Bool → Heap → Prop) (h : Heap) : Prop :=
  bindI 0 fun i => 
  loopM (σ := Int × Unit) (fun J2 s h3 =>
    (fun (i1 : Int) =>
      derefP b fun b4 o => 
      ldL h3 b4 o fun t => 
      iteP (decide (i1 < (t.len : Int))) (
        bindI 0 fun k => 
        loopM (σ := Int × Unit) (fun J6 s7 h8 =>
          (fun (k5 : Int) =>
            derefP b fun b9 o10 => 
            ldL h8 b9 o10 fun t11 => 
            idxA t11.ptr t11.len i1 1 fun b12 o13 => 
            ldL h8 b12 o13 fun t14 => 
            iteP (decide (k5 < (t14.len : Int))) (
              derefP b fun b15 o16 => 
              ldL h8 b15 o16 fun t17 => 
              idxA t17.ptr t17.len i1 1 fun b18 o19 => 
              ldL h8 b18 o19 fun t20 => 
              need ((200 : Int) ≠ 0) <| 
              idxA t20.ptr t20.len k5 1 fun b21 o22 => 
              st h8 b21 o22 (Value.int .u8 (IntKind.wrap .u8 (IntKind.wrap .i64 ((48 : Int) + (Int.tmod i1 200))))) fun h23 => 
              bindI (IntKind.wrap .i64 (k5 + 1)) fun k24 => 
              J6 (k24, ()) h23) (
              bindI (IntKind.wrap .i64 (i1 + 1)) fun i25 => 
              J2 (i25, ()) h8)) s7.1) (k, ()) h3) (
        bindI 0 fun i26 => 
        loopM (σ := Sl × Int × Unit) (fun J28 s29 h30 =>
          (fun (all : Sl) (i27 : Int) =>
            derefP b fun b31 o32 => 
            ldL h30 b31 o32 fun t33 => 
            iteP (decide (i27 < (t33.len : Int))) (
              derefP b fun b34 o35 => 
              ldL h30 b34 o35 fun t36 => 
              idxA t36.ptr t36.len i27 1 fun b37 o38 => 
              ldL h30 b37 o38 fun t39 => 
              bindI 0 fun k40 => 
              loopM (σ := Sl × Int × Unit) (fun J42 s43 h44 =>
                (fun (g : Sl) (k41 : Int) =>
                  iteP (decide (k41 < 20)) (
                    need ((200 : Int) ≠ 0) <| 
                    newC h44 [Value.int .u8 (IntKind.wrap .u8 (IntKind.wrap .i64 ((48 : Int) + (Int.tmod i27 200))))] 5 fun b45 h46 => 
                    rdS ⟨some ⟨b45, 0, none⟩, 1, 1⟩ 1 h46 fun new => app 5 1 1 [Value.int .u8 0] g 1 new h46 fun t47 h48 => 
                    bindI (IntKind.wrap .i64 (k41 + 1)) fun k49 => 
                    J42 (t47, k49, ()) h48) (
                    newC h44 [Value.slice g.ptr g.len g.cap] 29 fun b50 h51 => 
                    rdS ⟨some ⟨b50, 0, none⟩, 1, 1⟩ 1 h51 fun new54 => app 29 1 24 [Value.slice none 0 0] all 1 new54 h51 fun t52 h53 => 
                    bindI (IntKind.wrap .i64 (i27 + 1)) fun i55 => 
                    J28 (t52, i55, ()) h53)) s43.1 s43.2.1) (t39, k40, ()) h30) (
              bindI 0 fun i56 => 
              loopM (σ := Int × Unit) (fun J58 s59 h60 =>
                (fun (i57 : Int) =>
                  iteP (decide (i57 < (all.len : Int))) (
                    bindI 0 fun k61 => 
                    loopM (σ := Int × Unit) (fun J63 s64 h65 =>
                      (fun (k62 : Int) =>
                        idxA all.ptr all.len i57 1 fun b66 o67 => 
                        ldL h65 b66 o67 fun t68 => 
                        iteP (decide (k62 < (t68.len : Int))) (
                          idxA all.ptr all.len i57 1 fun b69 o70 => 
                          ldL h65 b69 o70 fun t71 => 
                          idxA t71.ptr t71.len k62 1 fun b72 o73 => 
                          ldI h65 b72 o73 .u8 fun t74 => 
                          need ((200 : Int) ≠ 0) <| 
                          iteP (t74 != (IntKind.wrap .u8 (IntKind.wrap .i64 ((48 : Int) + (Int.tmod i57 200))))) (
                            K false h65) (
                            bindI (IntKind.wrap .i64 (k62 + 1)) fun k75 => 
                            J63 (k75, ()) h65)) (
                          bindI 0 fun k76 => 
                          loopM (σ := Int × Unit) (fun J78 s79 h80 =>
                            (fun (k77 : Int) =>
                              derefP b fun b81 o82 => 
                              ldL h80 b81 o82 fun t83 => 
                              idxA t83.ptr t83.len i57 1 fun b84 o85 => 
                              ldL h80 b84 o85 fun t86 => 
                              iteP (decide (k77 < (t86.len : Int))) (
                                derefP b fun b87 o88 => 
                                ldL h80 b87 o88 fun t89 => 
                                idxA t89.ptr t89.len i57 1 fun b90 o91 => 
                                ldL h80 b90 o91 fun t92 => 
                                idxA t92.ptr t92.len k77 1 fun b93 o94 => 
                                ldI h80 b93 o94 .u8 fun t95 => 
                                need ((200 : Int) ≠ 0) <| 
                                iteP (t95 != (IntKind.wrap .u8 (IntKind.wrap .i64 ((48 : Int) + (Int.tmod i57 200))))) (
                                  K false h80) (
                                  bindI (IntKind.wrap .i64 (k77 + 1)) fun k96 => 
                                  J78 (k96, ()) h80)) (
                                bindI (IntKind.wrap .i64 (i57 + 1)) fun i97 => 
                                J58 (i97, ()) h80)) s79.1) (k76, ()) h65)) s64.1) (k61, ()) h60) (
                    K true h60)) s59.1) (i56, ()) h30)) s29.1 s29.2.1) (⟨none, 0, 0⟩, i26, ()) h3)) s.1) (i, ()) h

def m_spillwaymem_Book_aloneBytes (b : Option Addr) (K : Bool → Heap → Prop) (h : Heap) : Prop := g_spillwaymem_Book_aloneBytes b K h

/-- spillwaymem.text -/
def g_spillwaymem_text (i : Int) (K : ByteArray → Heap → Prop) (h : Heap) : Prop :=
  need ((26 : Int) ≠ 0) <| 
  need ((26 : Int) ≠ 0) <| 
  need ((26 : Int) ≠ 0) <| 
  need ((676 : Int) ≠ 0) <| 
  need ((26 : Int) ≠ 0) <| 
  newC h [Value.int .u8 (IntKind.wrap .u8 (IntKind.wrap .i64 ((97 : Int) + (Int.tmod i 26)))), Value.int .u8 (IntKind.wrap .u8 (IntKind.wrap .i64 ((97 : Int) + (Int.tmod (IntKind.wrap .i64 (Int.tdiv i 26)) 26)))), Value.int .u8 (IntKind.wrap .u8 (IntKind.wrap .i64 ((97 : Int) + (Int.tmod (IntKind.wrap .i64 (Int.tdiv i 676)) 26))))] 5 fun b h1 => 
  b2s ⟨some ⟨b, 0, none⟩, 3, 3⟩ h1 fun t => 
  catS (ByteArray.mk #[109, 97, 114, 107, 32]) t fun s => 
  K s h1

def m_spillwaymem_text (i : Int) (K : ByteArray → Heap → Prop) (h : Heap) : Prop := g_spillwaymem_text i K h

/-- (*spillwaymem.Book).aloneTexts -/
def g_spillwaymem_Book_aloneTexts (f_spillwaymem_text : Int → (ByteArray → Heap → Prop) → Heap → Prop) (b : Option Addr) (K : Bool → Heap → Prop) (h : Heap) : Prop :=
  bindI 0 fun i => 
  loopM (σ := Int × Unit) (fun J2 s h3 =>
    (fun (i1 : Int) =>
      derefP b fun b4 o => 
      ldL h3 b4 (o + 1) fun t => 
      iteP (decide (i1 < (t.len : Int))) (
        bindI 0 fun k => 
        loopM (σ := Int × Unit) (fun J6 s7 h8 =>
          (fun (k5 : Int) =>
            derefP b fun b9 o10 => 
            ldL h8 b9 (o10 + 1) fun t11 => 
            idxA t11.ptr t11.len i1 1 fun b12 o13 => 
            ldL h8 b12 o13 fun t14 => 
            iteP (decide (k5 < (t14.len : Int))) (
              derefP b fun b15 o16 => 
              ldL h8 b15 (o16 + 1) fun t17 => 
              idxA t17.ptr t17.len i1 1 fun b18 o19 => 
              ldL h8 b18 o19 fun t20 => 
              f_spillwaymem_text i1 (fun t21 h22 =>
                heldC h22 [(b18, o19, Value.slice t20.ptr t20.len t20.cap)] <|
                heldC h22 [(b15, o16 + 1, Value.slice t17.ptr t17.len t17.cap)] <|
                idxA t20.ptr t20.len k5 1 fun b23 o24 => 
                st h22 b23 o24 (Value.string t21) fun h25 => 
                bindI (IntKind.wrap .i64 (k5 + 1)) fun k26 => 
                J6 (k26, ()) h25) h8) (
              bindI (IntKind.wrap .i64 (i1 + 1)) fun i27 => 
              J2 (i27, ()) h8)) s7.1) (k, ()) h3) (
        bindI 0 fun i28 => 
        loopM (σ := Sl × Int × Unit) (fun J30 s31 h32 =>
          (fun (all : Sl) (i29 : Int) =>
            derefP b fun b33 o34 => 
            ldL h32 b33 (o34 + 1) fun t35 => 
            iteP (decide (i29 < (t35.len : Int))) (
              derefP b fun b36 o37 => 
              ldL h32 b36 (o37 + 1) fun t38 => 
              idxA t38.ptr t38.len i29 1 fun b39 o40 => 
              ldL h32 b39 o40 fun t41 => 
              bindI 0 fun k42 => 
              loopM (σ := Sl × Int × Unit) (fun J44 s45 h46 =>
                (fun (g : Sl) (k43 : Int) =>
                  iteP (decide (k43 < 20)) (
                    f_spillwaymem_text i29 (fun t47 h48 =>
                      newC h48 [Value.string t47] 9 fun b49 h50 => 
                      rdS ⟨some ⟨b49, 0, none⟩, 1, 1⟩ 1 h50 fun new => app 9 1 16 [Value.string (ByteArray.mk #[])] g 1 new h50 fun t51 h52 => 
                      bindI (IntKind.wrap .i64 (k43 + 1)) fun k53 => 
                      J44 (t51, k53, ()) h52) h46) (
                    newC h46 [Value.slice g.ptr g.len g.cap] 68 fun b54 h55 => 
                    rdS ⟨some ⟨b54, 0, none⟩, 1, 1⟩ 1 h55 fun new58 => app 68 1 24 [Value.slice none 0 0] all 1 new58 h55 fun t56 h57 => 
                    bindI (IntKind.wrap .i64 (i29 + 1)) fun i59 => 
                    J30 (t56, i59, ()) h57)) s45.1 s45.2.1) (t41, k42, ()) h32) (
              bindI 0 fun i60 => 
              loopM (σ := Int × Unit) (fun J62 s63 h64 =>
                (fun (i61 : Int) =>
                  iteP (decide (i61 < (all.len : Int))) (
                    bindI 0 fun k65 => 
                    loopM (σ := Int × Unit) (fun J67 s68 h69 =>
                      (fun (k66 : Int) =>
                        idxA all.ptr all.len i61 1 fun b70 o71 => 
                        ldL h69 b70 o71 fun t72 => 
                        iteP (decide (k66 < (t72.len : Int))) (
                          idxA all.ptr all.len i61 1 fun b73 o74 => 
                          ldL h69 b73 o74 fun t75 => 
                          idxA t75.ptr t75.len k66 1 fun b76 o77 => 
                          ldS h69 b76 o77 fun t78 => 
                          qcall (ρ := ByteArray × Unit) (fun K h => f_spillwaymem_text i61 (fun q h => K (q, ()) h) h) h69 fun r => 
                          iteP (!(strEq t78 r.1)) (
                            K false h69) (
                            bindI (IntKind.wrap .i64 (k66 + 1)) fun k80 => 
                            J67 (k80, ()) h69)) (
                          bindI 0 fun k81 => 
                          loopM (σ := Int × Unit) (fun J83 s84 h85 =>
                            (fun (k82 : Int) =>
                              derefP b fun b86 o87 => 
                              ldL h85 b86 (o87 + 1) fun t88 => 
                              idxA t88.ptr t88.len i61 1 fun b89 o90 => 
                              ldL h85 b89 o90 fun t91 => 
                              iteP (decide (k82 < (t91.len : Int))) (
                                derefP b fun b92 o93 => 
                                ldL h85 b92 (o93 + 1) fun t94 => 
                                idxA t94.ptr t94.len i61 1 fun b95 o96 => 
                                ldL h85 b95 o96 fun t97 => 
                                idxA t97.ptr t97.len k82 1 fun b98 o99 => 
                                ldS h85 b98 o99 fun t100 => 
                                qcall (ρ := ByteArray × Unit) (fun K h => f_spillwaymem_text i61 (fun q102 h => K (q102, ()) h) h) h85 fun r103 => 
                                iteP (!(strEq t100 r103.1)) (
                                  K false h85) (
                                  bindI (IntKind.wrap .i64 (k82 + 1)) fun k104 => 
                                  J83 (k104, ()) h85)) (
                                bindI (IntKind.wrap .i64 (i61 + 1)) fun i105 => 
                                J62 (i105, ()) h85)) s84.1) (k81, ()) h69)) s68.1) (k65, ()) h64) (
                    K true h64)) s63.1) (i60, ()) h32)) s31.1 s31.2.1) (⟨none, 0, 0⟩, i28, ()) h3)) s.1) (i, ()) h

def m_spillwaymem_Book_aloneTexts (b : Option Addr) (K : Bool → Heap → Prop) (h : Heap) : Prop := g_spillwaymem_Book_aloneTexts m_spillwaymem_text b K h

/-- (*spillwaymem.Book).aloneInts -/
def g_spillwaymem_Book_aloneInts (b : Option Addr) (K : Bool → Heap → Prop) (h : Heap) : Prop :=
  bindI 0 fun i => 
  loopM (σ := Int × Unit) (fun J2 s h3 =>
    (fun (i1 : Int) =>
      derefP b fun b4 o => 
      ldL h3 b4 (o + 2) fun t => 
      iteP (decide (i1 < (t.len : Int))) (
        bindI 0 fun k => 
        loopM (σ := Int × Unit) (fun J6 s7 h8 =>
          (fun (k5 : Int) =>
            derefP b fun b9 o10 => 
            ldL h8 b9 (o10 + 2) fun t11 => 
            idxA t11.ptr t11.len i1 1 fun b12 o13 => 
            ldL h8 b12 o13 fun t14 => 
            iteP (decide (k5 < (t14.len : Int))) (
              derefP b fun b15 o16 => 
              ldL h8 b15 (o16 + 2) fun t17 => 
              idxA t17.ptr t17.len i1 1 fun b18 o19 => 
              ldL h8 b18 o19 fun t20 => 
              idxA t20.ptr t20.len k5 1 fun b21 o22 => 
              st h8 b21 o22 (Value.int .i64 (IntKind.wrap .i64 ((-9000 : Int) - i1))) fun h23 => 
              bindI (IntKind.wrap .i64 (k5 + 1)) fun k24 => 
              J6 (k24, ()) h23) (
              bindI (IntKind.wrap .i64 (i1 + 1)) fun i25 => 
              J2 (i25, ()) h8)) s7.1) (k, ()) h3) (
        bindI 0 fun i26 => 
        loopM (σ := Sl × Int × Unit) (fun J28 s29 h30 =>
          (fun (all : Sl) (i27 : Int) =>
            derefP b fun b31 o32 => 
            ldL h30 b31 (o32 + 2) fun t33 => 
            iteP (decide (i27 < (t33.len : Int))) (
              derefP b fun b34 o35 => 
              ldL h30 b34 (o35 + 2) fun t36 => 
              idxA t36.ptr t36.len i27 1 fun b37 o38 => 
              ldL h30 b37 o38 fun t39 => 
              bindI 0 fun k40 => 
              loopM (σ := Sl × Int × Unit) (fun J42 s43 h44 =>
                (fun (g : Sl) (k41 : Int) =>
                  iteP (decide (k41 < 20)) (
                    newC h44 [Value.int .i64 (IntKind.wrap .i64 ((-9000 : Int) - i27))] 3 fun b45 h46 => 
                    rdS ⟨some ⟨b45, 0, none⟩, 1, 1⟩ 1 h46 fun new => app 3 1 8 [Value.int .i64 0] g 1 new h46 fun t47 h48 => 
                    bindI (IntKind.wrap .i64 (k41 + 1)) fun k49 => 
                    J42 (t47, k49, ()) h48) (
                    newC h44 [Value.slice g.ptr g.len g.cap] 70 fun b50 h51 => 
                    rdS ⟨some ⟨b50, 0, none⟩, 1, 1⟩ 1 h51 fun new54 => app 70 1 24 [Value.slice none 0 0] all 1 new54 h51 fun t52 h53 => 
                    bindI (IntKind.wrap .i64 (i27 + 1)) fun i55 => 
                    J28 (t52, i55, ()) h53)) s43.1 s43.2.1) (t39, k40, ()) h30) (
              bindI 0 fun i56 => 
              loopM (σ := Int × Unit) (fun J58 s59 h60 =>
                (fun (i57 : Int) =>
                  iteP (decide (i57 < (all.len : Int))) (
                    bindI 0 fun k61 => 
                    loopM (σ := Int × Unit) (fun J63 s64 h65 =>
                      (fun (k62 : Int) =>
                        idxA all.ptr all.len i57 1 fun b66 o67 => 
                        ldL h65 b66 o67 fun t68 => 
                        iteP (decide (k62 < (t68.len : Int))) (
                          idxA all.ptr all.len i57 1 fun b69 o70 => 
                          ldL h65 b69 o70 fun t71 => 
                          idxA t71.ptr t71.len k62 1 fun b72 o73 => 
                          ldI h65 b72 o73 .i64 fun t74 => 
                          iteP (t74 != (IntKind.wrap .i64 ((-9000 : Int) - i57))) (
                            K false h65) (
                            bindI (IntKind.wrap .i64 (k62 + 1)) fun k75 => 
                            J63 (k75, ()) h65)) (
                          bindI 0 fun k76 => 
                          loopM (σ := Int × Unit) (fun J78 s79 h80 =>
                            (fun (k77 : Int) =>
                              derefP b fun b81 o82 => 
                              ldL h80 b81 (o82 + 2) fun t83 => 
                              idxA t83.ptr t83.len i57 1 fun b84 o85 => 
                              ldL h80 b84 o85 fun t86 => 
                              iteP (decide (k77 < (t86.len : Int))) (
                                derefP b fun b87 o88 => 
                                ldL h80 b87 (o88 + 2) fun t89 => 
                                idxA t89.ptr t89.len i57 1 fun b90 o91 => 
                                ldL h80 b90 o91 fun t92 => 
                                idxA t92.ptr t92.len k77 1 fun b93 o94 => 
                                ldI h80 b93 o94 .i64 fun t95 => 
                                iteP (t95 != (IntKind.wrap .i64 ((-9000 : Int) - i57))) (
                                  K false h80) (
                                  bindI (IntKind.wrap .i64 (k77 + 1)) fun k96 => 
                                  J78 (k96, ()) h80)) (
                                bindI (IntKind.wrap .i64 (i57 + 1)) fun i97 => 
                                J58 (i97, ()) h80)) s79.1) (k76, ()) h65)) s64.1) (k61, ()) h60) (
                    K true h60)) s59.1) (i56, ()) h30)) s29.1 s29.2.1) (⟨none, 0, 0⟩, i26, ()) h3)) s.1) (i, ()) h

def m_spillwaymem_Book_aloneInts (b : Option Addr) (K : Bool → Heap → Prop) (h : Heap) : Prop := g_spillwaymem_Book_aloneInts b K h

/-- (*spillwaymem.Book).aloneCounts -/
def g_spillwaymem_Book_aloneCounts (b : Option Addr) (K : Bool → Heap → Prop) (h : Heap) : Prop :=
  bindI 0 fun i => 
  loopM (σ := Int × Unit) (fun J2 s h3 =>
    (fun (i1 : Int) =>
      derefP b fun b4 o => 
      ldL h3 b4 (o + 3) fun t => 
      iteP (decide (i1 < (t.len : Int))) (
        bindI 0 fun k => 
        loopM (σ := Int × Unit) (fun J6 s7 h8 =>
          (fun (k5 : Int) =>
            derefP b fun b9 o10 => 
            ldL h8 b9 (o10 + 3) fun t11 => 
            idxA t11.ptr t11.len i1 1 fun b12 o13 => 
            ldL h8 b12 o13 fun t14 => 
            iteP (decide (k5 < (t14.len : Int))) (
              derefP b fun b15 o16 => 
              ldL h8 b15 (o16 + 3) fun t17 => 
              idxA t17.ptr t17.len i1 1 fun b18 o19 => 
              ldL h8 b18 o19 fun t20 => 
              idxA t20.ptr t20.len k5 6 fun b21 o22 => 
              sts h8 b21 o22 [Value.int .i64 (IntKind.wrap .i64 ((-9000 : Int) - i1)), Value.int .i64 0, Value.int .i64 0, Value.int .i64 0, Value.int .i64 0, Value.int .i64 0] fun h23 => 
              bindI (IntKind.wrap .i64 (k5 + 1)) fun k24 => 
              J6 (k24, ()) h23) (
              bindI (IntKind.wrap .i64 (i1 + 1)) fun i25 => 
              J2 (i25, ()) h8)) s7.1) (k, ()) h3) (
        bindI 0 fun i26 => 
        loopM (σ := Sl × Int × Unit) (fun J28 s29 h30 =>
          (fun (all : Sl) (i27 : Int) =>
            derefP b fun b31 o32 => 
            ldL h30 b31 (o32 + 3) fun t33 => 
            iteP (decide (i27 < (t33.len : Int))) (
              derefP b fun b34 o35 => 
              ldL h30 b34 (o35 + 3) fun t36 => 
              idxA t36.ptr t36.len i27 1 fun b37 o38 => 
              ldL h30 b37 o38 fun t39 => 
              bindI 0 fun k40 => 
              loopM (σ := Sl × Int × Unit) (fun J42 s43 h44 =>
                (fun (g : Sl) (k41 : Int) =>
                  iteP (decide (k41 < 20)) (
                    newC h44 [Value.int .i64 (IntKind.wrap .i64 ((-9000 : Int) - i27)), Value.int .i64 0, Value.int .i64 0, Value.int .i64 0, Value.int .i64 0, Value.int .i64 0] 73 fun b45 h46 => 
                    rdS ⟨some ⟨b45, 0, none⟩, 1, 1⟩ 6 h46 fun new => app 73 6 48 [Value.int .i64 0, Value.int .i64 0, Value.int .i64 0, Value.int .i64 0, Value.int .i64 0, Value.int .i64 0] g 1 new h46 fun t47 h48 => 
                    bindI (IntKind.wrap .i64 (k41 + 1)) fun k49 => 
                    J42 (t47, k49, ()) h48) (
                    newC h44 [Value.slice g.ptr g.len g.cap] 71 fun b50 h51 => 
                    rdS ⟨some ⟨b50, 0, none⟩, 1, 1⟩ 1 h51 fun new54 => app 71 1 24 [Value.slice none 0 0] all 1 new54 h51 fun t52 h53 => 
                    bindI (IntKind.wrap .i64 (i27 + 1)) fun i55 => 
                    J28 (t52, i55, ()) h53)) s43.1 s43.2.1) (t39, k40, ()) h30) (
              bindI 0 fun i56 => 
              loopM (σ := Int × Unit) (fun J58 s59 h60 =>
                (fun (i57 : Int) =>
                  iteP (decide (i57 < (all.len : Int))) (
                    bindI 0 fun k61 => 
                    loopM (σ := Int × Unit) (fun J63 s64 h65 =>
                      (fun (k62 : Int) =>
                        idxA all.ptr all.len i57 1 fun b66 o67 => 
                        ldL h65 b66 o67 fun t68 => 
                        iteP (decide (k62 < (t68.len : Int))) (
                          idxA all.ptr all.len i57 1 fun b69 o70 => 
                          ldL h65 b69 o70 fun t71 => 
                          idxA t71.ptr t71.len k62 6 fun b72 o73 => 
                          ldI h65 b72 o73 .i64 fun t74 => ldI h65 b72 (o73 + 1) .i64 fun t75 => ldI h65 b72 (o73 + 2) .i64 fun t76 => ldI h65 b72 (o73 + 3) .i64 fun t77 => ldI h65 b72 (o73 + 4) .i64 fun t78 => ldI h65 b72 (o73 + 5) .i64 fun t79 => 
                          False) (
                          bindI 0 fun k80 => 
                          loopM (σ := Int × Unit) (fun J82 s83 h84 =>
                            (fun (k81 : Int) =>
                              derefP b fun b85 o86 => 
                              ldL h84 b85 (o86 + 3) fun t87 => 
                              idxA t87.ptr t87.len i57 1 fun b88 o89 => 
                              ldL h84 b88 o89 fun t90 => 
                              iteP (decide (k81 < (t90.len : Int))) (
                                derefP b fun b91 o92 => 
                                ldL h84 b91 (o92 + 3) fun t93 => 
                                idxA t93.ptr t93.len i57 1 fun b94 o95 => 
                                ldL h84 b94 o95 fun t96 => 
                                idxA t96.ptr t96.len k81 6 fun b97 o98 => 
                                ldI h84 b97 o98 .i64 fun t99 => ldI h84 b97 (o98 + 1) .i64 fun t100 => ldI h84 b97 (o98 + 2) .i64 fun t101 => ldI h84 b97 (o98 + 3) .i64 fun t102 => ldI h84 b97 (o98 + 4) .i64 fun t103 => ldI h84 b97 (o98 + 5) .i64 fun t104 => 
                                False) (
                                bindI (IntKind.wrap .i64 (i57 + 1)) fun i105 => 
                                J58 (i105, ()) h84)) s83.1) (k80, ()) h65)) s64.1) (k61, ()) h60) (
                    K true h60)) s59.1) (i56, ()) h30)) s29.1 s29.2.1) (⟨none, 0, 0⟩, i26, ()) h3)) s.1) (i, ()) h

def m_spillwaymem_Book_aloneCounts (b : Option Addr) (K : Bool → Heap → Prop) (h : Heap) : Prop := g_spillwaymem_Book_aloneCounts b K h

/-- (*spillwaymem.Book).aloneItems -/
def g_spillwaymem_Book_aloneItems (b : Option Addr) (K : Bool → Heap → Prop) (h : Heap) : Prop :=
  bindI 0 fun i => 
  loopM (σ := Int × Unit) (fun J2 s h3 =>
    (fun (i1 : Int) =>
      derefP b fun b4 o => 
      ldL h3 b4 (o + 4) fun t => 
      iteP (decide (i1 < (t.len : Int))) (
        bindI 0 fun k => 
        loopM (σ := Int × Unit) (fun J6 s7 h8 =>
          (fun (k5 : Int) =>
            derefP b fun b9 o10 => 
            ldL h8 b9 (o10 + 4) fun t11 => 
            idxA t11.ptr t11.len i1 1 fun b12 o13 => 
            ldL h8 b12 o13 fun t14 => 
            iteP (decide (k5 < (t14.len : Int))) (
              derefP b fun b15 o16 => 
              ldL h8 b15 (o16 + 4) fun t17 => 
              idxA t17.ptr t17.len i1 1 fun b18 o19 => 
              ldL h8 b18 o19 fun t20 => 
              idxA t20.ptr t20.len k5 2 fun b21 o22 => 
              sts h8 b21 o22 [Value.string (ByteArray.mk #[]), Value.int .i64 (IntKind.wrap .i64 ((-9000 : Int) - i1))] fun h23 => 
              bindI (IntKind.wrap .i64 (k5 + 1)) fun k24 => 
              J6 (k24, ()) h23) (
              bindI (IntKind.wrap .i64 (i1 + 1)) fun i25 => 
              J2 (i25, ()) h8)) s7.1) (k, ()) h3) (
        bindI 0 fun i26 => 
        loopM (σ := Sl × Int × Unit) (fun J28 s29 h30 =>
          (fun (all : Sl) (i27 : Int) =>
            derefP b fun b31 o32 => 
            ldL h30 b31 (o32 + 4) fun t33 => 
            iteP (decide (i27 < (t33.len : Int))) (
              derefP b fun b34 o35 => 
              ldL h30 b34 (o35 + 4) fun t36 => 
              idxA t36.ptr t36.len i27 1 fun b37 o38 => 
              ldL h30 b37 o38 fun t39 => 
              bindI 0 fun k40 => 
              loopM (σ := Sl × Int × Unit) (fun J42 s43 h44 =>
                (fun (g : Sl) (k41 : Int) =>
                  iteP (decide (k41 < 20)) (
                    newC h44 [Value.string (ByteArray.mk #[]), Value.int .i64 (IntKind.wrap .i64 ((-9000 : Int) - i27))] 76 fun b45 h46 => 
                    rdS ⟨some ⟨b45, 0, none⟩, 1, 1⟩ 2 h46 fun new => app 76 2 24 [Value.string (ByteArray.mk #[]), Value.int .i64 0] g 1 new h46 fun t47 h48 => 
                    bindI (IntKind.wrap .i64 (k41 + 1)) fun k49 => 
                    J42 (t47, k49, ()) h48) (
                    newC h44 [Value.slice g.ptr g.len g.cap] 74 fun b50 h51 => 
                    rdS ⟨some ⟨b50, 0, none⟩, 1, 1⟩ 1 h51 fun new54 => app 74 1 24 [Value.slice none 0 0] all 1 new54 h51 fun t52 h53 => 
                    bindI (IntKind.wrap .i64 (i27 + 1)) fun i55 => 
                    J28 (t52, i55, ()) h53)) s43.1 s43.2.1) (t39, k40, ()) h30) (
              bindI 0 fun i56 => 
              loopM (σ := Int × Unit) (fun J58 s59 h60 =>
                (fun (i57 : Int) =>
                  iteP (decide (i57 < (all.len : Int))) (
                    bindI 0 fun k61 => 
                    loopM (σ := Int × Unit) (fun J63 s64 h65 =>
                      (fun (k62 : Int) =>
                        idxA all.ptr all.len i57 1 fun b66 o67 => 
                        ldL h65 b66 o67 fun t68 => 
                        iteP (decide (k62 < (t68.len : Int))) (
                          idxA all.ptr all.len i57 1 fun b69 o70 => 
                          ldL h65 b69 o70 fun t71 => 
                          idxA t71.ptr t71.len k62 2 fun b72 o73 => 
                          ldS h65 b72 o73 fun t74 => ldI h65 b72 (o73 + 1) .i64 fun t75 => 
                          False) (
                          bindI 0 fun k76 => 
                          loopM (σ := Int × Unit) (fun J78 s79 h80 =>
                            (fun (k77 : Int) =>
                              derefP b fun b81 o82 => 
                              ldL h80 b81 (o82 + 4) fun t83 => 
                              idxA t83.ptr t83.len i57 1 fun b84 o85 => 
                              ldL h80 b84 o85 fun t86 => 
                              iteP (decide (k77 < (t86.len : Int))) (
                                derefP b fun b87 o88 => 
                                ldL h80 b87 (o88 + 4) fun t89 => 
                                idxA t89.ptr t89.len i57 1 fun b90 o91 => 
                                ldL h80 b90 o91 fun t92 => 
                                idxA t92.ptr t92.len k77 2 fun b93 o94 => 
                                ldS h80 b93 o94 fun t95 => ldI h80 b93 (o94 + 1) .i64 fun t96 => 
                                False) (
                                bindI (IntKind.wrap .i64 (i57 + 1)) fun i97 => 
                                J58 (i97, ()) h80)) s79.1) (k76, ()) h65)) s64.1) (k61, ()) h60) (
                    K true h60)) s59.1) (i56, ()) h30)) s29.1 s29.2.1) (⟨none, 0, 0⟩, i26, ()) h3)) s.1) (i, ()) h

def m_spillwaymem_Book_aloneItems (b : Option Addr) (K : Bool → Heap → Prop) (h : Heap) : Prop := g_spillwaymem_Book_aloneItems b K h

/-- (*spillwaymem.Book).aloneFlows -/
def g_spillwaymem_Book_aloneFlows (b : Option Addr) (K : Bool → Heap → Prop) (h : Heap) : Prop :=
  bindI 0 fun i => 
  loopM (σ := Int × Unit) (fun J2 s h3 =>
    (fun (i1 : Int) =>
      derefP b fun b4 o => 
      ldL h3 b4 (o + 5) fun t => 
      iteP (decide (i1 < (t.len : Int))) (
        bindI 0 fun k => 
        loopM (σ := Int × Unit) (fun J6 s7 h8 =>
          (fun (k5 : Int) =>
            derefP b fun b9 o10 => 
            ldL h8 b9 (o10 + 5) fun t11 => 
            idxA t11.ptr t11.len i1 1 fun b12 o13 => 
            ldL h8 b12 o13 fun t14 => 
            iteP (decide (k5 < (t14.len : Int))) (
              derefP b fun b15 o16 => 
              ldL h8 b15 (o16 + 5) fun t17 => 
              idxA t17.ptr t17.len i1 1 fun b18 o19 => 
              ldL h8 b18 o19 fun t20 => 
              idxA t20.ptr t20.len k5 12 fun b21 o22 => 
              sts h8 b21 o22 [Value.string (ByteArray.mk #[]), Value.string (ByteArray.mk #[]), Value.bool false, Value.int .i64 (IntKind.wrap .i64 ((-9000 : Int) - i1)), Value.int .u8 0, Value.string (ByteArray.mk #[]), Value.int .u8 0, Value.int .i64 0, Value.int .i64 0, Value.bool false, Value.int .i64 0, Value.bool false] fun h23 => 
              bindI (IntKind.wrap .i64 (k5 + 1)) fun k24 => 
              J6 (k24, ()) h23) (
              bindI (IntKind.wrap .i64 (i1 + 1)) fun i25 => 
              J2 (i25, ()) h8)) s7.1) (k, ()) h3) (
        bindI 0 fun i26 => 
        loopM (σ := Sl × Int × Unit) (fun J28 s29 h30 =>
          (fun (all : Sl) (i27 : Int) =>
            derefP b fun b31 o32 => 
            ldL h30 b31 (o32 + 5) fun t33 => 
            iteP (decide (i27 < (t33.len : Int))) (
              derefP b fun b34 o35 => 
              ldL h30 b34 (o35 + 5) fun t36 => 
              idxA t36.ptr t36.len i27 1 fun b37 o38 => 
              ldL h30 b37 o38 fun t39 => 
              bindI 0 fun k40 => 
              loopM (σ := Sl × Int × Unit) (fun J42 s43 h44 =>
                (fun (g : Sl) (k41 : Int) =>
                  iteP (decide (k41 < 20)) (
                    newC h44 [Value.string (ByteArray.mk #[]), Value.string (ByteArray.mk #[]), Value.bool false, Value.int .i64 (IntKind.wrap .i64 ((-9000 : Int) - i27)), Value.int .u8 0, Value.string (ByteArray.mk #[]), Value.int .u8 0, Value.int .i64 0, Value.int .i64 0, Value.bool false, Value.int .i64 0, Value.bool false] 81 fun b45 h46 => 
                    rdS ⟨some ⟨b45, 0, none⟩, 1, 1⟩ 12 h46 fun new => app 81 12 120 [Value.string (ByteArray.mk #[]), Value.string (ByteArray.mk #[]), Value.bool false, Value.int .i64 0, Value.int .u8 0, Value.string (ByteArray.mk #[]), Value.int .u8 0, Value.int .i64 0, Value.int .i64 0, Value.bool false, Value.int .i64 0, Value.bool false] g 1 new h46 fun t47 h48 => 
                    bindI (IntKind.wrap .i64 (k41 + 1)) fun k49 => 
                    J42 (t47, k49, ()) h48) (
                    newC h44 [Value.slice g.ptr g.len g.cap] 77 fun b50 h51 => 
                    rdS ⟨some ⟨b50, 0, none⟩, 1, 1⟩ 1 h51 fun new54 => app 77 1 24 [Value.slice none 0 0] all 1 new54 h51 fun t52 h53 => 
                    bindI (IntKind.wrap .i64 (i27 + 1)) fun i55 => 
                    J28 (t52, i55, ()) h53)) s43.1 s43.2.1) (t39, k40, ()) h30) (
              bindI 0 fun i56 => 
              loopM (σ := Int × Unit) (fun J58 s59 h60 =>
                (fun (i57 : Int) =>
                  iteP (decide (i57 < (all.len : Int))) (
                    bindI 0 fun k61 => 
                    loopM (σ := Int × Unit) (fun J63 s64 h65 =>
                      (fun (k62 : Int) =>
                        idxA all.ptr all.len i57 1 fun b66 o67 => 
                        ldL h65 b66 o67 fun t68 => 
                        iteP (decide (k62 < (t68.len : Int))) (
                          idxA all.ptr all.len i57 1 fun b69 o70 => 
                          ldL h65 b69 o70 fun t71 => 
                          idxA t71.ptr t71.len k62 12 fun b72 o73 => 
                          ldS h65 b72 o73 fun t74 => ldS h65 b72 (o73 + 1) fun t75 => ldB h65 b72 (o73 + 2) fun t76 => ldI h65 b72 (o73 + 3) .i64 fun t77 => ldI h65 b72 (o73 + 4) .u8 fun t78 => ldS h65 b72 (o73 + 5) fun t79 => ldI h65 b72 (o73 + 6) .u8 fun t80 => ldI h65 b72 (o73 + 7) .i64 fun t81 => ldI h65 b72 (o73 + 8) .i64 fun t82 => ldB h65 b72 (o73 + 9) fun t83 => ldI h65 b72 (o73 + 10) .i64 fun t84 => ldB h65 b72 (o73 + 11) fun t85 => 
                          False) (
                          bindI 0 fun k86 => 
                          loopM (σ := Int × Unit) (fun J88 s89 h90 =>
                            (fun (k87 : Int) =>
                              derefP b fun b91 o92 => 
                              ldL h90 b91 (o92 + 5) fun t93 => 
                              idxA t93.ptr t93.len i57 1 fun b94 o95 => 
                              ldL h90 b94 o95 fun t96 => 
                              iteP (decide (k87 < (t96.len : Int))) (
                                derefP b fun b97 o98 => 
                                ldL h90 b97 (o98 + 5) fun t99 => 
                                idxA t99.ptr t99.len i57 1 fun b100 o101 => 
                                ldL h90 b100 o101 fun t102 => 
                                idxA t102.ptr t102.len k87 12 fun b103 o104 => 
                                ldS h90 b103 o104 fun t105 => ldS h90 b103 (o104 + 1) fun t106 => ldB h90 b103 (o104 + 2) fun t107 => ldI h90 b103 (o104 + 3) .i64 fun t108 => ldI h90 b103 (o104 + 4) .u8 fun t109 => ldS h90 b103 (o104 + 5) fun t110 => ldI h90 b103 (o104 + 6) .u8 fun t111 => ldI h90 b103 (o104 + 7) .i64 fun t112 => ldI h90 b103 (o104 + 8) .i64 fun t113 => ldB h90 b103 (o104 + 9) fun t114 => ldI h90 b103 (o104 + 10) .i64 fun t115 => ldB h90 b103 (o104 + 11) fun t116 => 
                                False) (
                                bindI (IntKind.wrap .i64 (i57 + 1)) fun i117 => 
                                J58 (i117, ()) h90)) s89.1) (k86, ()) h65)) s64.1) (k61, ()) h60) (
                    K true h60)) s59.1) (i56, ()) h30)) s29.1 s29.2.1) (⟨none, 0, 0⟩, i26, ()) h3)) s.1) (i, ()) h

def m_spillwaymem_Book_aloneFlows (b : Option Addr) (K : Bool → Heap → Prop) (h : Heap) : Prop := g_spillwaymem_Book_aloneFlows b K h

/-- (*spillwaymem.Book).aloneBreaks -/
def g_spillwaymem_Book_aloneBreaks (b : Option Addr) (K : Bool → Heap → Prop) (h : Heap) : Prop :=
  bindI 0 fun i => 
  loopM (σ := Int × Unit) (fun J2 s h3 =>
    (fun (i1 : Int) =>
      derefP b fun b4 o => 
      ldL h3 b4 (o + 6) fun t => 
      iteP (decide (i1 < (t.len : Int))) (
        bindI 0 fun k => 
        loopM (σ := Int × Unit) (fun J6 s7 h8 =>
          (fun (k5 : Int) =>
            derefP b fun b9 o10 => 
            ldL h8 b9 (o10 + 6) fun t11 => 
            idxA t11.ptr t11.len i1 1 fun b12 o13 => 
            ldL h8 b12 o13 fun t14 => 
            iteP (decide (k5 < (t14.len : Int))) (
              derefP b fun b15 o16 => 
              ldL h8 b15 (o16 + 6) fun t17 => 
              idxA t17.ptr t17.len i1 1 fun b18 o19 => 
              ldL h8 b18 o19 fun t20 => 
              idxA t20.ptr t20.len k5 7 fun b21 o22 => 
              sts h8 b21 o22 [Value.string (ByteArray.mk #[]), Value.int .u8 0, Value.int .i64 (IntKind.wrap .i64 ((-9000 : Int) - i1)), Value.int .i64 0, Value.int .i64 0, Value.int .i64 0, Value.int .i64 0] fun h23 => 
              bindI (IntKind.wrap .i64 (k5 + 1)) fun k24 => 
              J6 (k24, ()) h23) (
              bindI (IntKind.wrap .i64 (i1 + 1)) fun i25 => 
              J2 (i25, ()) h8)) s7.1) (k, ()) h3) (
        bindI 0 fun i26 => 
        loopM (σ := Sl × Int × Unit) (fun J28 s29 h30 =>
          (fun (all : Sl) (i27 : Int) =>
            derefP b fun b31 o32 => 
            ldL h30 b31 (o32 + 6) fun t33 => 
            iteP (decide (i27 < (t33.len : Int))) (
              derefP b fun b34 o35 => 
              ldL h30 b34 (o35 + 6) fun t36 => 
              idxA t36.ptr t36.len i27 1 fun b37 o38 => 
              ldL h30 b37 o38 fun t39 => 
              bindI 0 fun k40 => 
              loopM (σ := Sl × Int × Unit) (fun J42 s43 h44 =>
                (fun (g : Sl) (k41 : Int) =>
                  iteP (decide (k41 < 20)) (
                    newC h44 [Value.string (ByteArray.mk #[]), Value.int .u8 0, Value.int .i64 (IntKind.wrap .i64 ((-9000 : Int) - i27)), Value.int .i64 0, Value.int .i64 0, Value.int .i64 0, Value.int .i64 0] 85 fun b45 h46 => 
                    rdS ⟨some ⟨b45, 0, none⟩, 1, 1⟩ 7 h46 fun new => app 85 7 64 [Value.string (ByteArray.mk #[]), Value.int .u8 0, Value.int .i64 0, Value.int .i64 0, Value.int .i64 0, Value.int .i64 0, Value.int .i64 0] g 1 new h46 fun t47 h48 => 
                    bindI (IntKind.wrap .i64 (k41 + 1)) fun k49 => 
                    J42 (t47, k49, ()) h48) (
                    newC h44 [Value.slice g.ptr g.len g.cap] 82 fun b50 h51 => 
                    rdS ⟨some ⟨b50, 0, none⟩, 1, 1⟩ 1 h51 fun new54 => app 82 1 24 [Value.slice none 0 0] all 1 new54 h51 fun t52 h53 => 
                    bindI (IntKind.wrap .i64 (i27 + 1)) fun i55 => 
                    J28 (t52, i55, ()) h53)) s43.1 s43.2.1) (t39, k40, ()) h30) (
              bindI 0 fun i56 => 
              loopM (σ := Int × Unit) (fun J58 s59 h60 =>
                (fun (i57 : Int) =>
                  iteP (decide (i57 < (all.len : Int))) (
                    bindI 0 fun k61 => 
                    loopM (σ := Int × Unit) (fun J63 s64 h65 =>
                      (fun (k62 : Int) =>
                        idxA all.ptr all.len i57 1 fun b66 o67 => 
                        ldL h65 b66 o67 fun t68 => 
                        iteP (decide (k62 < (t68.len : Int))) (
                          idxA all.ptr all.len i57 1 fun b69 o70 => 
                          ldL h65 b69 o70 fun t71 => 
                          idxA t71.ptr t71.len k62 7 fun b72 o73 => 
                          ldS h65 b72 o73 fun t74 => ldI h65 b72 (o73 + 1) .u8 fun t75 => ldI h65 b72 (o73 + 2) .i64 fun t76 => ldI h65 b72 (o73 + 3) .i64 fun t77 => ldI h65 b72 (o73 + 4) .i64 fun t78 => ldI h65 b72 (o73 + 5) .i64 fun t79 => ldI h65 b72 (o73 + 6) .i64 fun t80 => 
                          False) (
                          bindI 0 fun k81 => 
                          loopM (σ := Int × Unit) (fun J83 s84 h85 =>
                            (fun (k82 : Int) =>
                              derefP b fun b86 o87 => 
                              ldL h85 b86 (o87 + 6) fun t88 => 
                              idxA t88.ptr t88.len i57 1 fun b89 o90 => 
                              ldL h85 b89 o90 fun t91 => 
                              iteP (decide (k82 < (t91.len : Int))) (
                                derefP b fun b92 o93 => 
                                ldL h85 b92 (o93 + 6) fun t94 => 
                                idxA t94.ptr t94.len i57 1 fun b95 o96 => 
                                ldL h85 b95 o96 fun t97 => 
                                idxA t97.ptr t97.len k82 7 fun b98 o99 => 
                                ldS h85 b98 o99 fun t100 => ldI h85 b98 (o99 + 1) .u8 fun t101 => ldI h85 b98 (o99 + 2) .i64 fun t102 => ldI h85 b98 (o99 + 3) .i64 fun t103 => ldI h85 b98 (o99 + 4) .i64 fun t104 => ldI h85 b98 (o99 + 5) .i64 fun t105 => ldI h85 b98 (o99 + 6) .i64 fun t106 => 
                                False) (
                                bindI (IntKind.wrap .i64 (i57 + 1)) fun i107 => 
                                J58 (i107, ()) h85)) s84.1) (k81, ()) h65)) s64.1) (k61, ()) h60) (
                    K true h60)) s59.1) (i56, ()) h30)) s29.1 s29.2.1) (⟨none, 0, 0⟩, i26, ()) h3)) s.1) (i, ()) h

def m_spillwaymem_Book_aloneBreaks (b : Option Addr) (K : Bool → Heap → Prop) (h : Heap) : Prop := g_spillwaymem_Book_aloneBreaks b K h

/-- (*spillwaymem.Book).aloneSystems -/
def g_spillwaymem_Book_aloneSystems (b : Option Addr) (K : Bool → Heap → Prop) (h : Heap) : Prop :=
  bindI 0 fun i => 
  loopM (σ := Int × Unit) (fun J2 s h3 =>
    (fun (i1 : Int) =>
      derefP b fun b4 o => 
      ldL h3 b4 (o + 7) fun t => 
      iteP (decide (i1 < (t.len : Int))) (
        bindI 0 fun k => 
        loopM (σ := Int × Unit) (fun J6 s7 h8 =>
          (fun (k5 : Int) =>
            derefP b fun b9 o10 => 
            ldL h8 b9 (o10 + 7) fun t11 => 
            idxA t11.ptr t11.len i1 1 fun b12 o13 => 
            ldL h8 b12 o13 fun t14 => 
            iteP (decide (k5 < (t14.len : Int))) (
              derefP b fun b15 o16 => 
              ldL h8 b15 (o16 + 7) fun t17 => 
              idxA t17.ptr t17.len i1 1 fun b18 o19 => 
              ldL h8 b18 o19 fun t20 => 
              idxA t20.ptr t20.len k5 5 fun b21 o22 => 
              sts h8 b21 o22 [Value.int .i64 (IntKind.wrap .i64 ((-9000 : Int) - i1)), Value.int .i64 0, Value.int .i64 0, Value.int .i64 0, Value.int .i64 0] fun h23 => 
              bindI (IntKind.wrap .i64 (k5 + 1)) fun k24 => 
              J6 (k24, ()) h23) (
              bindI (IntKind.wrap .i64 (i1 + 1)) fun i25 => 
              J2 (i25, ()) h8)) s7.1) (k, ()) h3) (
        bindI 0 fun i26 => 
        loopM (σ := Sl × Int × Unit) (fun J28 s29 h30 =>
          (fun (all : Sl) (i27 : Int) =>
            derefP b fun b31 o32 => 
            ldL h30 b31 (o32 + 7) fun t33 => 
            iteP (decide (i27 < (t33.len : Int))) (
              derefP b fun b34 o35 => 
              ldL h30 b34 (o35 + 7) fun t36 => 
              idxA t36.ptr t36.len i27 1 fun b37 o38 => 
              ldL h30 b37 o38 fun t39 => 
              bindI 0 fun k40 => 
              loopM (σ := Sl × Int × Unit) (fun J42 s43 h44 =>
                (fun (g : Sl) (k41 : Int) =>
                  iteP (decide (k41 < 20)) (
                    newC h44 [Value.int .i64 (IntKind.wrap .i64 ((-9000 : Int) - i27)), Value.int .i64 0, Value.int .i64 0, Value.int .i64 0, Value.int .i64 0] 88 fun b45 h46 => 
                    rdS ⟨some ⟨b45, 0, none⟩, 1, 1⟩ 5 h46 fun new => app 88 5 40 [Value.int .i64 0, Value.int .i64 0, Value.int .i64 0, Value.int .i64 0, Value.int .i64 0] g 1 new h46 fun t47 h48 => 
                    bindI (IntKind.wrap .i64 (k41 + 1)) fun k49 => 
                    J42 (t47, k49, ()) h48) (
                    newC h44 [Value.slice g.ptr g.len g.cap] 86 fun b50 h51 => 
                    rdS ⟨some ⟨b50, 0, none⟩, 1, 1⟩ 1 h51 fun new54 => app 86 1 24 [Value.slice none 0 0] all 1 new54 h51 fun t52 h53 => 
                    bindI (IntKind.wrap .i64 (i27 + 1)) fun i55 => 
                    J28 (t52, i55, ()) h53)) s43.1 s43.2.1) (t39, k40, ()) h30) (
              bindI 0 fun i56 => 
              loopM (σ := Int × Unit) (fun J58 s59 h60 =>
                (fun (i57 : Int) =>
                  iteP (decide (i57 < (all.len : Int))) (
                    bindI 0 fun k61 => 
                    loopM (σ := Int × Unit) (fun J63 s64 h65 =>
                      (fun (k62 : Int) =>
                        idxA all.ptr all.len i57 1 fun b66 o67 => 
                        ldL h65 b66 o67 fun t68 => 
                        iteP (decide (k62 < (t68.len : Int))) (
                          idxA all.ptr all.len i57 1 fun b69 o70 => 
                          ldL h65 b69 o70 fun t71 => 
                          idxA t71.ptr t71.len k62 5 fun b72 o73 => 
                          ldI h65 b72 o73 .i64 fun t74 => ldI h65 b72 (o73 + 1) .i64 fun t75 => ldI h65 b72 (o73 + 2) .i64 fun t76 => ldI h65 b72 (o73 + 3) .i64 fun t77 => ldI h65 b72 (o73 + 4) .i64 fun t78 => 
                          False) (
                          bindI 0 fun k79 => 
                          loopM (σ := Int × Unit) (fun J81 s82 h83 =>
                            (fun (k80 : Int) =>
                              derefP b fun b84 o85 => 
                              ldL h83 b84 (o85 + 7) fun t86 => 
                              idxA t86.ptr t86.len i57 1 fun b87 o88 => 
                              ldL h83 b87 o88 fun t89 => 
                              iteP (decide (k80 < (t89.len : Int))) (
                                derefP b fun b90 o91 => 
                                ldL h83 b90 (o91 + 7) fun t92 => 
                                idxA t92.ptr t92.len i57 1 fun b93 o94 => 
                                ldL h83 b93 o94 fun t95 => 
                                idxA t95.ptr t95.len k80 5 fun b96 o97 => 
                                ldI h83 b96 o97 .i64 fun t98 => ldI h83 b96 (o97 + 1) .i64 fun t99 => ldI h83 b96 (o97 + 2) .i64 fun t100 => ldI h83 b96 (o97 + 3) .i64 fun t101 => ldI h83 b96 (o97 + 4) .i64 fun t102 => 
                                False) (
                                bindI (IntKind.wrap .i64 (i57 + 1)) fun i103 => 
                                J58 (i103, ()) h83)) s82.1) (k79, ()) h65)) s64.1) (k61, ()) h60) (
                    K true h60)) s59.1) (i56, ()) h30)) s29.1 s29.2.1) (⟨none, 0, 0⟩, i26, ()) h3)) s.1) (i, ()) h

def m_spillwaymem_Book_aloneSystems (b : Option Addr) (K : Bool → Heap → Prop) (h : Heap) : Prop := g_spillwaymem_Book_aloneSystems b K h

/-- (*spillwaymem.Book).Alone -/
def g_spillwaymem_Book_Alone (f_spillwaymem_Book_aloneBytes : (Option Addr) → (Bool → Heap → Prop) → Heap → Prop) (f_spillwaymem_Book_aloneTexts : (Option Addr) → (Bool → Heap → Prop) → Heap → Prop) (f_spillwaymem_Book_aloneInts : (Option Addr) → (Bool → Heap → Prop) → Heap → Prop) (f_spillwaymem_Book_aloneCounts : (Option Addr) → (Bool → Heap → Prop) → Heap → Prop) (f_spillwaymem_Book_aloneItems : (Option Addr) → (Bool → Heap → Prop) → Heap → Prop) (f_spillwaymem_Book_aloneFlows : (Option Addr) → (Bool → Heap → Prop) → Heap → Prop) (f_spillwaymem_Book_aloneBreaks : (Option Addr) → (Bool → Heap → Prop) → Heap → Prop) (f_spillwaymem_Book_aloneSystems : (Option Addr) → (Bool → Heap → Prop) → Heap → Prop) (b : Option Addr) (K : Bool → Heap → Prop) (h : Heap) : Prop :=
  f_spillwaymem_Book_aloneBytes b (fun t h1 =>
    iteP t (
      f_spillwaymem_Book_aloneTexts b (fun t2 h3 =>
        iteP t2 (
          f_spillwaymem_Book_aloneInts b (fun t4 h5 =>
            iteP t4 (
              f_spillwaymem_Book_aloneCounts b (fun t6 h7 =>
                iteP t6 (
                  f_spillwaymem_Book_aloneItems b (fun t8 h9 =>
                    iteP t8 (
                      f_spillwaymem_Book_aloneFlows b (fun t10 h11 =>
                        iteP t10 (
                          f_spillwaymem_Book_aloneBreaks b (fun t12 h13 =>
                            iteP t12 (
                              f_spillwaymem_Book_aloneSystems b (fun t14 h15 =>
                                bindB t14 fun ok => 
                                derefP b fun b16 o => 
                                sts h15 b16 o [Value.slice none 0 0, Value.slice none 0 0, Value.slice none 0 0, Value.slice none 0 0, Value.slice none 0 0, Value.slice none 0 0, Value.slice none 0 0, Value.slice none 0 0] fun h17 => 
                                bindB ok fun t18 => 
                                K t18 h17) h13) (
                              derefP b fun b19 o20 => 
                              sts h13 b19 o20 [Value.slice none 0 0, Value.slice none 0 0, Value.slice none 0 0, Value.slice none 0 0, Value.slice none 0 0, Value.slice none 0 0, Value.slice none 0 0, Value.slice none 0 0] fun h21 => 
                              K false h21)) h11) (
                          derefP b fun b22 o23 => 
                          sts h11 b22 o23 [Value.slice none 0 0, Value.slice none 0 0, Value.slice none 0 0, Value.slice none 0 0, Value.slice none 0 0, Value.slice none 0 0, Value.slice none 0 0, Value.slice none 0 0] fun h24 => 
                          K false h24)) h9) (
                      derefP b fun b25 o26 => 
                      sts h9 b25 o26 [Value.slice none 0 0, Value.slice none 0 0, Value.slice none 0 0, Value.slice none 0 0, Value.slice none 0 0, Value.slice none 0 0, Value.slice none 0 0, Value.slice none 0 0] fun h27 => 
                      K false h27)) h7) (
                  derefP b fun b28 o29 => 
                  sts h7 b28 o29 [Value.slice none 0 0, Value.slice none 0 0, Value.slice none 0 0, Value.slice none 0 0, Value.slice none 0 0, Value.slice none 0 0, Value.slice none 0 0, Value.slice none 0 0] fun h30 => 
                  K false h30)) h5) (
              derefP b fun b31 o32 => 
              sts h5 b31 o32 [Value.slice none 0 0, Value.slice none 0 0, Value.slice none 0 0, Value.slice none 0 0, Value.slice none 0 0, Value.slice none 0 0, Value.slice none 0 0, Value.slice none 0 0] fun h33 => 
              K false h33)) h3) (
          derefP b fun b34 o35 => 
          sts h3 b34 o35 [Value.slice none 0 0, Value.slice none 0 0, Value.slice none 0 0, Value.slice none 0 0, Value.slice none 0 0, Value.slice none 0 0, Value.slice none 0 0, Value.slice none 0 0] fun h36 => 
          K false h36)) h1) (
      derefP b fun b37 o38 => 
      sts h1 b37 o38 [Value.slice none 0 0, Value.slice none 0 0, Value.slice none 0 0, Value.slice none 0 0, Value.slice none 0 0, Value.slice none 0 0, Value.slice none 0 0, Value.slice none 0 0] fun h39 => 
      K false h39)) h

def m_spillwaymem_Book_Alone (b : Option Addr) (K : Bool → Heap → Prop) (h : Heap) : Prop := g_spillwaymem_Book_Alone m_spillwaymem_Book_aloneBytes m_spillwaymem_Book_aloneTexts m_spillwaymem_Book_aloneInts m_spillwaymem_Book_aloneCounts m_spillwaymem_Book_aloneItems m_spillwaymem_Book_aloneFlows m_spillwaymem_Book_aloneBreaks m_spillwaymem_Book_aloneSystems b K h

/-- spillwaylaw18.FrameReads -/
def g_spillwaylaw18_FrameReads (f_spillwaylaw18_live : (Bool → Heap → Prop) → Heap → Prop) (f_frame_New : ((Option Addr) → Heap → Prop) → Heap → Prop) (f_spillwayref18_New : ((Option Addr) → Heap → Prop) → Heap → Prop) (f_frame_Reader_Reset : (Option Addr) → (Heap → Prop) → Heap → Prop) (f_frame_Reader_Fork : (Option Addr) → ((Option Addr) → Heap → Prop) → Heap → Prop) (f_spillwayref18_Reader_Fork : (Option Addr) → ((Option Addr) → Heap → Prop) → Heap → Prop) (f_spillwaymem_Hand : Sl → (Sl → Heap → Prop) → Heap → Prop) (f_frame_Reader_Put : (Option Addr) → Sl → (Sl → Int → Heap → Prop) → Heap → Prop) (f_spillwayref18_Reader_Put : (Option Addr) → Sl → (Sl → Int → Heap → Prop) → Heap → Prop) (f_spillwaymem_SamePayloads : Sl → Sl → (Bool → Heap → Prop) → Heap → Prop) (f_frame_Reader_Left : (Option Addr) → (Int → Heap → Prop) → Heap → Prop) (f_spillwayref18_Reader_Left : (Option Addr) → (Int → Heap → Prop) → Heap → Prop) (f_frame_Reader_Missing : (Option Addr) → (Int → Heap → Prop) → Heap → Prop) (f_spillwayref18_Reader_Missing : (Option Addr) → (Int → Heap → Prop) → Heap → Prop) (f_frame_Reader_Broken : (Option Addr) → (Bool → Heap → Prop) → Heap → Prop) (f_spillwayref18_Reader_Broken : (Option Addr) → (Bool → Heap → Prop) → Heap → Prop) (f_spillwaymem_Kept : Sl → Sl → (Bool → Heap → Prop) → Heap → Prop) (f_spillwaymem_Book_TakePayloads : (Option Addr) → Sl → (Heap → Prop) → Heap → Prop) (f_spillwaymem_Book_Alone : (Option Addr) → (Bool → Heap → Prop) → Heap → Prop) (pieces : Sl) (K : Bool → Heap → Prop) (h : Heap) : Prop :=
  f_spillwaylaw18_live (fun t h1 =>
    iteP (!t) (
      K false h1) (
      f_frame_New (fun t2 h3 =>
        f_spillwayref18_New (fun t4 h5 =>
          bindI 0 fun i => 
          loopM (σ := Option Addr × Int × Unit) (fun J7 s h8 =>
            (fun (b : Option Addr) (i6 : Int) =>
              iteP (decide (i6 < (pieces.len : Int))) (
                cutP (σ := Option Addr × Unit) (fun s16 h17 =>
                  (fun (b15 : Option Addr) =>
                    f_frame_Reader_Fork t2 (fun t18 h19 =>
                      f_spillwayref18_Reader_Fork b15 (fun t20 h21 =>
                        idxA pieces.ptr pieces.len i6 1 fun b22 o23 => 
                        ldL h21 b22 o23 fun t24 => 
                        f_spillwaymem_Hand t24 (fun t25 h26 =>
                          f_frame_Reader_Put t2 t25 (fun t27 t28 h29 =>
                            bindI t28 fun e => 
                            idxA pieces.ptr pieces.len i6 1 fun b30 o31 => 
                            ldL h29 b30 o31 fun t32 => 
                            f_spillwayref18_Reader_Put b15 t32 (fun t33 t34 h35 =>
                              bindI t34 fun f => 
                              f_spillwaymem_SamePayloads t27 t33 (fun t36 h37 =>
                                iteP (!t36) (
                                  K false h37) (
                                  iteP (e != f) (
                                    K false h37) (
                                    f_frame_Reader_Left t2 (fun t38 h39 =>
                                      f_spillwayref18_Reader_Left b15 (fun t40 h41 =>
                                        iteP (t38 != t40) (
                                          K false h41) (
                                          f_frame_Reader_Missing t2 (fun t42 h43 =>
                                            f_spillwayref18_Reader_Missing b15 (fun t44 h45 =>
                                              iteP (t42 != t44) (
                                                K false h45) (
                                                f_frame_Reader_Broken t2 (fun t46 h47 =>
                                                  f_spillwayref18_Reader_Broken b15 (fun t48 h49 =>
                                                    iteP (t46 != t48) (
                                                      K false h49) (
                                                      idxA pieces.ptr pieces.len i6 1 fun b50 o51 => 
                                                      ldL h49 b50 o51 fun t52 => 
                                                      f_spillwaymem_Kept t25 t52 (fun t53 h54 =>
                                                        iteP (!t53) (
                                                          K false h54) (
                                                          f_frame_Reader_Left t18 (fun t55 h56 =>
                                                            f_spillwayref18_Reader_Left t20 (fun t57 h58 =>
                                                              iteP (t55 != t57) (
                                                                K false h58) (
                                                                f_frame_Reader_Broken t18 (fun t59 h60 =>
                                                                  f_spillwayref18_Reader_Broken t20 (fun t61 h62 =>
                                                                    iteP (t59 != t61) (
                                                                      K false h62) (
                                                                      bindI 0 fun k => 
                                                                      loopM (σ := Int × Unit) (fun J64 s65 h66 =>
                                                                        (fun (k63 : Int) =>
                                                                          iteP (decide (k63 < (t25.len : Int))) (
                                                                            idxA t25.ptr t25.len k63 1 fun b67 o68 => 
                                                                            ldI h66 b67 o68 .u8 fun t69 => 
                                                                            idxA t25.ptr t25.len k63 1 fun b70 o71 => 
                                                                            st h66 b70 o71 (Value.int .u8 (xorV .u8 t69 255)) fun h72 => 
                                                                            bindI (IntKind.wrap .i64 (k63 + 1)) fun k73 => 
                                                                            J64 (k73, ()) h72) (
                                                                            newC h66 [Value.slice none 0 0, Value.slice none 0 0, Value.slice none 0 0, Value.slice none 0 0, Value.slice none 0 0, Value.slice none 0 0, Value.slice none 0 0, Value.slice none 0 0] 47 fun b74 h75 => 
                                                                            f_spillwaymem_Book_TakePayloads (some ⟨b74, 0, none⟩) t27 (fun h76 =>
                                                                              f_spillwaymem_Book_Alone (some ⟨b74, 0, none⟩) (fun t77 h78 =>
                                                                                iteP (!t77) (
                                                                                  K false h78) (
                                                                                  bindI (IntKind.wrap .i64 (i6 + 1)) fun i79 => 
                                                                                  J7 (b15, i79, ()) h78)) h76) h75)) s65.1) (k, ()) h62)) h60) h58)) h56) h54)) h49)) h47) h45)) h43) h41)) h39) h37))) h35) h29) h26) h21) h19) h17) s16.1) (fun J9 =>
                  idxA pieces.ptr pieces.len i6 1 fun b10 o => 
                  ldL h8 b10 o fun t11 => 
                  iteP ((t11.len : Int) == 0) (
                    need ((2 : Int) ≠ 0) <| 
                    iteP ((Int.tmod i6 2) == 0) (
                      f_frame_Reader_Reset t2 (fun h12 =>
                        f_spillwayref18_New (fun t13 h14 =>
                          J9 (t13, ()) h14) h12) h8) (
                      J9 (b, ()) h8)) (
                    J9 (b, ()) h8))) (
                K true h8)) s.1 s.2.1) (t4, i, ()) h5) h3) h1)) h

def m_spillwaylaw18_FrameReads (pieces : Sl) (K : Bool → Heap → Prop) (h : Heap) : Prop := g_spillwaylaw18_FrameReads m_spillwaylaw18_live m_frame_New m_spillwayref18_New m_frame_Reader_Reset m_frame_Reader_Fork m_spillwayref18_Reader_Fork m_spillwaymem_Hand m_frame_Reader_Put m_spillwayref18_Reader_Put m_spillwaymem_SamePayloads m_frame_Reader_Left m_spillwayref18_Reader_Left m_frame_Reader_Missing m_spillwayref18_Reader_Missing m_frame_Reader_Broken m_spillwayref18_Reader_Broken m_spillwaymem_Kept m_spillwaymem_Book_TakePayloads m_spillwaymem_Book_Alone pieces K h

/-- spillwaylaw18.FrameNone -/
def g_spillwaylaw18_FrameNone (f_frame_Reader_Put : (Option Addr) → Sl → (Sl → Int → Heap → Prop) → Heap → Prop) (f_frame_Reader_Reset : (Option Addr) → (Heap → Prop) → Heap → Prop) (f_spillwaylaw18_live : (Bool → Heap → Prop) → Heap → Prop) (f_frame_Reader_Left : (Option Addr) → (Int → Heap → Prop) → Heap → Prop) (f_frame_Reader_Missing : (Option Addr) → (Int → Heap → Prop) → Heap → Prop) (f_frame_Reader_Broken : (Option Addr) → (Bool → Heap → Prop) → Heap → Prop) (f_frame_Reader_Fork : (Option Addr) → ((Option Addr) → Heap → Prop) → Heap → Prop) (b : Sl) (K : Bool → Heap → Prop) (h : Heap) : Prop :=
  f_frame_Reader_Put none b (fun t t1 h2 =>
    bindI t1 fun e => 
    f_frame_Reader_Reset none (fun h3 =>
      f_spillwaylaw18_live (fun t4 h5 =>
        iteP t4 (
          iteP ((t.len : Int) == 0) (
            iteP (e == 1) (
              f_frame_Reader_Left none (fun t6 h7 =>
                iteP (t6 == 0) (
                  f_frame_Reader_Missing none (fun t8 h9 =>
                    iteP (t8 == 0) (
                      f_frame_Reader_Broken none (fun t10 h11 =>
                        iteP (!t10) (
                          f_frame_Reader_Fork none (fun t12 h13 =>
                            bindB t12.isNone fun t14 => 
                            K t14 h13) h11) (
                          K false h11)) h9) (
                      K false h9)) h7) (
                  K false h7)) h5) (
              K false h5)) (
            K false h5)) (
          K false h5)) h3) h2) h

def m_spillwaylaw18_FrameNone (b : Sl) (K : Bool → Heap → Prop) (h : Heap) : Prop := g_spillwaylaw18_FrameNone m_frame_Reader_Put m_frame_Reader_Reset m_spillwaylaw18_live m_frame_Reader_Left m_frame_Reader_Missing m_frame_Reader_Broken m_frame_Reader_Fork b K h

/-- frame.Frames -/
def g_frame_Frames (f_frame_Frame : Sl → (Sl → Int → Heap → Prop) → Heap → Prop) (l : Sl) (K : Sl → Int → Heap → Prop) (h : Heap) : Prop :=
  bindI 0 fun t => 
  loopM (σ := Sl × Int × Unit) (fun J1 s h2 =>
    (fun (out : Sl) (s11 : Int) =>
      iteP (decide (s11 < (l.len : Int))) (
        idxA l.ptr l.len s11 1 fun b o => 
        ldL h2 b o fun t3 => 
        f_frame_Frame t3 (fun t4 t5 h6 =>
          bindI t5 fun e => 
          iteP (e != 0) (
            bindI e fun t7 => 
            K ⟨none, 0, 0⟩ t7 h6) (
            rdS t4 1 h6 fun new => app 5 1 1 [Value.int .u8 0] out t4.len new h6 fun t8 h9 => 
            J1 (t8, IntKind.wrap .i64 (s11 + 1), ()) h9)) h2) (
        bindI 0 fun t10 => 
        K out t10 h2)) s.1 s.2.1) (⟨none, 0, 0⟩, 0, ()) h

def m_frame_Frames (l : Sl) (K : Sl → Int → Heap → Prop) (h : Heap) : Prop := g_frame_Frames m_frame_Frame l K h

/-- spillwayref18.Frame -/
def g_spillwayref18_Frame (payload : Sl) (K : Sl → Int → Heap → Prop) (h : Heap) : Prop :=
  bindI 0 fun t => 
  bindI (payload.len : Int) fun n => 
  bindB (decide (n > 4096)) fun t1 => 
  iteP t1 (
    bindI 5 fun t2 => 
    K ⟨none, 0, 0⟩ t2 h) (
    bindB (n == 0) fun t3 => 
    iteP t3 (
      bindI 6 fun t4 => 
      K ⟨none, 0, 0⟩ t4 h) (
      need (0 ≤ (8 : Int)) <| 
      newC h [Value.int .u8 0, Value.int .u8 0, Value.int .u8 (IntKind.wrap .u8 (shrV .i64 n 8)), Value.int .u8 (IntKind.wrap .u8 n)] 5 fun b h5 => 
      rdS payload 1 h5 fun new => app 5 1 1 [Value.int .u8 0] ⟨some ⟨b, 0, none⟩, 4, 4⟩ payload.len new h5 fun t6 h7 => 
      bindI 0 fun t8 => 
      K t6 t8 h7))

def m_spillwayref18_Frame (payload : Sl) (K : Sl → Int → Heap → Prop) (h : Heap) : Prop := g_spillwayref18_Frame payload K h

/-- spillwayref18.Frames -/
def g_spillwayref18_Frames (f_spillwayref18_Frame : Sl → (Sl → Int → Heap → Prop) → Heap → Prop) (l : Sl) (K : Sl → Int → Heap → Prop) (h : Heap) : Prop :=
  bindI 0 fun t => 
  bindI 0 fun i => 
  loopM (σ := Sl × Int × Unit) (fun J2 s h3 =>
    (fun (out : Sl) (i1 : Int) =>
      iteP (decide (i1 < (l.len : Int))) (
        idxA l.ptr l.len i1 1 fun b o => 
        ldL h3 b o fun t4 => 
        f_spillwayref18_Frame t4 (fun t5 t6 h7 =>
          bindI t6 fun e => 
          iteP (e != 0) (
            bindI e fun t8 => 
            K ⟨none, 0, 0⟩ t8 h7) (
            rdS t5 1 h7 fun new => app 5 1 1 [Value.int .u8 0] out t5.len new h7 fun t9 h10 => 
            bindI (IntKind.wrap .i64 (i1 + 1)) fun i11 => 
            J2 (t9, i11, ()) h10)) h3) (
        bindI 0 fun t12 => 
        K out t12 h3)) s.1 s.2.1) (⟨none, 0, 0⟩, i, ()) h

def m_spillwayref18_Frames (l : Sl) (K : Sl → Int → Heap → Prop) (h : Heap) : Prop := g_spillwayref18_Frames m_spillwayref18_Frame l K h

/-- frame.Split -/
def g_frame_Split (f_frame_length : Sl → (Int → Bool → Heap → Prop) → Heap → Prop) (f_bytes_Clone : Sl → (Sl → Heap → Prop) → Heap → Prop) (b : Sl) (K : Sl → Int → Int → Heap → Prop) (h : Heap) : Prop :=
  bindI 0 fun t => 
  bindI 0 fun t1 => 
  bindI 0 fun at_ => 
  loopM (σ := Sl × Int × Unit) (fun J3 s h4 =>
    (fun (out : Sl) (at_2 : Int) =>
      iteP (decide (at_2 < (b.len : Int))) (
        slc b.ptr b.cap 1 at_2 b.len b.cap fun t5 => 
        f_frame_length t5 (fun t6 t7 h8 =>
          bindI t6 fun n => 
          bindB t7 fun ok => 
          bindB (!ok) fun t9 => 
          iteP t9 (
            bindI at_2 fun t10 => 
            bindI 50 fun t11 => 
            K out t10 t11 h8) (
            iteP (decide ((IntKind.wrap .i64 ((b.len : Int) - at_2)) < 4)) (
              bindI at_2 fun t12 => 
              bindI 24 fun t13 => 
              K out t12 t13 h8) (
              bindB (decide ((IntKind.wrap .i64 ((IntKind.wrap .i64 ((b.len : Int) - at_2)) - 4)) < n)) fun t14 => 
              iteP t14 (
                bindI at_2 fun t15 => 
                bindI 24 fun t16 => 
                K out t15 t16 h8) (
                slc b.ptr b.cap 1 (IntKind.wrap .i64 (at_2 + 4)) (IntKind.wrap .i64 ((IntKind.wrap .i64 (at_2 + 4)) + n)) (IntKind.wrap .i64 ((IntKind.wrap .i64 (at_2 + 4)) + n)) fun t17 => 
                f_bytes_Clone t17 (fun t18 h19 =>
                  newC h19 [Value.slice t18.ptr t18.len t18.cap] 29 fun b20 h21 => 
                  rdS ⟨some ⟨b20, 0, none⟩, 1, 1⟩ 1 h21 fun new => app 29 1 24 [Value.slice none 0 0] out 1 new h21 fun t22 h23 => 
                  bindI (IntKind.wrap .i64 (at_2 + (IntKind.wrap .i64 ((4 : Int) + n)))) fun at_24 => 
                  J3 (t22, at_24, ()) h23) h8)))) h4) (
        bindI at_2 fun t25 => 
        bindI 0 fun t26 => 
        K out t25 t26 h4)) s.1 s.2.1) (⟨none, 0, 0⟩, at_, ()) h

def m_frame_Split (b : Sl) (K : Sl → Int → Int → Heap → Prop) (h : Heap) : Prop := g_frame_Split m_frame_length m_bytes_Clone b K h

/-- spillwaylaw18.FrameMakes -/
def g_spillwaylaw18_FrameMakes (f_spillwaymem_Hand : Sl → (Sl → Heap → Prop) → Heap → Prop) (f_frame_Frames : Sl → (Sl → Int → Heap → Prop) → Heap → Prop) (f_spillwayref18_Frames : Sl → (Sl → Int → Heap → Prop) → Heap → Prop) (f_frame_Split : Sl → (Sl → Int → Int → Heap → Prop) → Heap → Prop) (f_spillwayref18_Split : Sl → (Sl → Int → Int → Heap → Prop) → Heap → Prop) (f_spillwaylaw18_live : (Bool → Heap → Prop) → Heap → Prop) (f_spillwaymem_Same : Sl → Sl → (Bool → Heap → Prop) → Heap → Prop) (f_spillwaymem_SamePayloads : Sl → Sl → (Bool → Heap → Prop) → Heap → Prop) (f_spillwaymem_Kept : Sl → Sl → (Bool → Heap → Prop) → Heap → Prop) (f_frame_Frame : Sl → (Sl → Int → Heap → Prop) → Heap → Prop) (f_spillwayref18_Frame : Sl → (Sl → Int → Heap → Prop) → Heap → Prop) (f_spillwaymem_Book_TakeBytes : (Option Addr) → Sl → (Heap → Prop) → Heap → Prop) (f_spillwaymem_Book_TakePayloads : (Option Addr) → Sl → (Heap → Prop) → Heap → Prop) (f_spillwaymem_Book_Alone : (Option Addr) → (Bool → Heap → Prop) → Heap → Prop) (l : Sl) (b : Sl) (K : Bool → Heap → Prop) (h : Heap) : Prop :=
  bindI 0 fun i => 
  loopM (σ := Sl × Int × Unit) (fun J2 s h3 =>
    (fun (in_ : Sl) (i1 : Int) =>
      iteP (decide (i1 < (l.len : Int))) (
        idxA l.ptr l.len i1 1 fun b4 o => 
        ldL h3 b4 o fun t => 
        f_spillwaymem_Hand t (fun t5 h6 =>
          newC h6 [Value.slice t5.ptr t5.len t5.cap] 29 fun b7 h8 => 
          rdS ⟨some ⟨b7, 0, none⟩, 1, 1⟩ 1 h8 fun new => app 29 1 24 [Value.slice none 0 0] in_ 1 new h8 fun t9 h10 => 
          bindI (IntKind.wrap .i64 (i1 + 1)) fun i11 => 
          J2 (t9, i11, ()) h10) h3) (
        f_spillwaymem_Hand b (fun t12 h13 =>
          f_frame_Frames in_ (fun t14 t15 h16 =>
            bindI t15 fun e => 
            f_spillwayref18_Frames l (fun t17 t18 h19 =>
              bindI t18 fun f => 
              f_frame_Split t12 (fun t20 t21 t22 h23 =>
                bindI t21 fun n => 
                bindI t22 fun g => 
                f_spillwayref18_Split b (fun t24 t25 t26 h27 =>
                  bindI t25 fun m => 
                  bindI t26 fun h28 => 
                  f_spillwaylaw18_live (fun t29 h30 =>
                    iteP (!t29) (
                      K false h30) (
                      f_spillwaymem_Same t14 t17 (fun t31 h32 =>
                        iteP (!t31) (
                          K false h32) (
                          iteP (e != f) (
                            K false h32) (
                            f_spillwaymem_SamePayloads t20 t24 (fun t33 h34 =>
                              iteP (!t33) (
                                K false h34) (
                                iteP (n != m) (
                                  K false h34) (
                                  iteP (g != h28) (
                                    K false h34) (
                                    f_spillwaymem_Kept t12 b (fun t35 h36 =>
                                      iteP (!t35) (
                                        K false h36) (
                                        bindI 0 fun i37 => 
                                        loopM (σ := Int × Unit) (fun J39 s40 h41 =>
                                          (fun (i38 : Int) =>
                                            iteP (decide (i38 < (l.len : Int))) (
                                              idxA in_.ptr in_.len i38 1 fun b42 o43 => 
                                              ldL h41 b42 o43 fun t44 => 
                                              f_frame_Frame t44 (fun t45 t46 h47 =>
                                                bindI t46 fun c => 
                                                idxA l.ptr l.len i38 1 fun b48 o49 => 
                                                ldL h47 b48 o49 fun t50 => 
                                                f_spillwayref18_Frame t50 (fun t51 t52 h53 =>
                                                  bindI t52 fun d => 
                                                  qcall (ρ := Bool × Unit) (fun K h => f_spillwaymem_Same t45 t51 (fun q h => K (q, ()) h) h) h53 fun r => 
                                                  iteP (!r.1) (
                                                    K false h53) (
                                                    iteP (c != d) (
                                                      K false h53) (
                                                      idxA in_.ptr in_.len i38 1 fun b55 o56 => 
                                                      ldL h53 b55 o56 fun t57 => 
                                                      idxA l.ptr l.len i38 1 fun b58 o59 => 
                                                      ldL h53 b58 o59 fun t60 => 
                                                      qcall (ρ := Bool × Unit) (fun K h => f_spillwaymem_Kept t57 t60 (fun q62 h => K (q62, ()) h) h) h53 fun r63 => 
                                                      iteP (!r63.1) (
                                                        K false h53) (
                                                        bindI (IntKind.wrap .i64 (i38 + 1)) fun i64 => 
                                                        J39 (i64, ()) h53)))) h47) h41) (
                                              newC h41 [Value.slice none 0 0, Value.slice none 0 0, Value.slice none 0 0, Value.slice none 0 0, Value.slice none 0 0, Value.slice none 0 0, Value.slice none 0 0, Value.slice none 0 0] 47 fun b65 h66 => 
                                              f_spillwaymem_Book_TakeBytes (some ⟨b65, 0, none⟩) t14 (fun h67 =>
                                                f_spillwaymem_Book_TakePayloads (some ⟨b65, 0, none⟩) t20 (fun h68 =>
                                                  f_frame_Split t12 (fun t69 t70 t71 h72 =>
                                                    bindI t70 fun _ => 
                                                    bindI t71 fun _73 => 
                                                    f_spillwaymem_Book_TakePayloads (some ⟨b65, 0, none⟩) t69 (fun h74 =>
                                                      f_spillwaymem_Book_Alone (some ⟨b65, 0, none⟩) (fun t75 h76 =>
                                                        iteP t75 (
                                                          f_spillwaymem_Kept t12 b (fun t77 h78 =>
                                                            bindB t77 fun t79 => 
                                                            K t79 h78) h76) (
                                                          K false h76)) h74) h72) h68) h67) h66)) s40.1) (i37, ()) h36)) h34)))) h32))) h30)) h27) h23) h19) h16) h13) h3)) s.1 s.2.1) (⟨none, 0, 0⟩, i, ()) h

def m_spillwaylaw18_FrameMakes (l : Sl) (b : Sl) (K : Bool → Heap → Prop) (h : Heap) : Prop := g_spillwaylaw18_FrameMakes m_spillwaymem_Hand m_frame_Frames m_spillwayref18_Frames m_frame_Split m_spillwayref18_Split m_spillwaylaw18_live m_spillwaymem_Same m_spillwaymem_SamePayloads m_spillwaymem_Kept m_frame_Frame m_spillwayref18_Frame m_spillwaymem_Book_TakeBytes m_spillwaymem_Book_TakePayloads m_spillwaymem_Book_Alone l b K h

/-- spillwaylaw18.FrameCuts -/
def g_spillwaylaw18_FrameCuts (f_spillwaylaw18_live : (Bool → Heap → Prop) → Heap → Prop) (f_frame_Frames : Sl → (Sl → Int → Heap → Prop) → Heap → Prop) (f_frame_Split : Sl → (Sl → Int → Int → Heap → Prop) → Heap → Prop) (f_spillwaymem_SamePayloads : Sl → Sl → (Bool → Heap → Prop) → Heap → Prop) (f_frame_New : ((Option Addr) → Heap → Prop) → Heap → Prop) (f_frame_Reader_Put : (Option Addr) → Sl → (Sl → Int → Heap → Prop) → Heap → Prop) (f_frame_Reader_Left : (Option Addr) → (Int → Heap → Prop) → Heap → Prop) (f_frame_Reader_Missing : (Option Addr) → (Int → Heap → Prop) → Heap → Prop) (l : Sl) (cuts : Sl) (K : Bool → Heap → Prop) (h : Heap) : Prop :=
  f_spillwaylaw18_live (fun t h1 =>
    iteP (!t) (
      K false h1) (
      f_frame_Frames l (fun t2 t3 h4 =>
        bindI t3 fun e => 
        iteP (e != 0) (
          iteP (e == 5) (
            K true h4) (
            bindB (e == 6) fun t5 => 
            K t5 h4)) (
          f_frame_Split t2 (fun t6 t7 t8 h9 =>
            bindI t7 fun n => 
            bindI t8 fun f => 
            iteP (f != 0) (
              K false h9) (
              iteP (n != (t2.len : Int)) (
                K false h9) (
                f_spillwaymem_SamePayloads t6 l (fun t10 h11 =>
                  iteP (!t10) (
                    K false h11) (
                    f_frame_New (fun t12 h13 =>
                      bindI 0 fun at_ => 
                      bindI 0 fun i => 
                      loopM (σ := Sl × Int × Int × Unit) (fun J16 s h17 =>
                        (fun (out : Sl) (at_14 : Int) (i15 : Int) =>
                          iteP (decide (at_14 < (t2.len : Int))) (
                            bindI (IntKind.wrap .i64 ((t2.len : Int) - at_14)) fun k => 
                            cutP (σ := Int × Unit) (fun s25 h26 =>
                              (fun (k24 : Int) =>
                                slc t2.ptr t2.cap 1 at_14 (IntKind.wrap .i64 (at_14 + k24)) t2.cap fun t27 => 
                                f_frame_Reader_Put t12 t27 (fun t28 t29 h30 =>
                                  bindI t29 fun g => 
                                  iteP (g != 0) (
                                    K false h30) (
                                    rdS t28 1 h30 fun new => app 29 1 24 [Value.slice none 0 0] out t28.len new h30 fun t31 h32 => 
                                    bindI (IntKind.wrap .i64 (at_14 + k24)) fun at_33 => 
                                    bindI (IntKind.wrap .i64 (i15 + 1)) fun i34 => 
                                    J16 (t31, at_33, i34, ()) h32)) h26) s25.1) (fun J18 =>
                              iteP (decide (i15 < (cuts.len : Int))) (
                                idxA cuts.ptr cuts.len i15 1 fun b o => 
                                ldI h17 b o .u16 fun t19 => 
                                iteP (decide ((IntKind.wrap .i64 t19) < k)) (
                                  idxA cuts.ptr cuts.len i15 1 fun b20 o21 => 
                                  ldI h17 b20 o21 .u16 fun t22 => 
                                  bindI (IntKind.wrap .i64 t22) fun k23 => 
                                  J18 (k23, ()) h17) (
                                  J18 (k, ()) h17)) (
                                J18 (k, ()) h17))) (
                            f_spillwaymem_SamePayloads out l (fun t35 h36 =>
                              iteP t35 (
                                f_frame_Reader_Left t12 (fun t37 h38 =>
                                  iteP (t37 == 0) (
                                    f_frame_Reader_Missing t12 (fun t39 h40 =>
                                      bindB (t39 == 4) fun t41 => 
                                      K t41 h40) h38) (
                                    K false h38)) h36) (
                                K false h36)) h17)) s.1 s.2.1 s.2.2.1) (⟨none, 0, 0⟩, at_, i, ()) h13) h11)) h9))) h4)) h1)) h

def m_spillwaylaw18_FrameCuts (l : Sl) (cuts : Sl) (K : Bool → Heap → Prop) (h : Heap) : Prop := g_spillwaylaw18_FrameCuts m_spillwaylaw18_live m_frame_Frames m_frame_Split m_spillwaymem_SamePayloads m_frame_New m_frame_Reader_Put m_frame_Reader_Left m_frame_Reader_Missing l cuts K h

end Go.Proofs.Ytpbpooaleiolcaa
