/- The models of the functions. Written by a program out of the translated functions. -/
import Derived.Test.YtkcbkiognkkhlaaFwA
import GoSem.Machine.Frame
import GoSem.Op.String
namespace Go.Proofs.Ytkcbkiognkkhlaa
open Go Go.Fw

/-- world.isTime -/
def g_world_isTime (at_ : Int) (K : Bool → Heap → Prop) (h : Heap) : Prop :=
  iteP (decide (at_ ≥ 0)) (
    bindB (decide (at_ ≤ 1152921504606846976)) fun t => 
    K t h) (
    K false h)

def m_world_isTime (at_ : Int) (K : Bool → Heap → Prop) (h : Heap) : Prop := g_world_isTime at_ K h

/-- world.NewClock -/
def g_world_NewClock (f_world_isTime : Int → (Bool → Heap → Prop) → Heap → Prop) (at_ : Int) (K : (Option Addr) → Int → Heap → Prop) (h : Heap) : Prop :=
  bindI 0 fun t => 
  f_world_isTime at_ (fun t1 h2 =>
    iteP (!t1) (
      bindI 2 fun t3 => 
      K none t3 h2) (
      newC h2 [Value.int .i64 at_] 99 fun b h4 => 
      bindI 0 fun t5 => 
      K (some ⟨b, 0, none⟩) t5 h4)) h

def m_world_NewClock (at_ : Int) (K : (Option Addr) → Int → Heap → Prop) (h : Heap) : Prop := g_world_NewClock m_world_isTime at_ K h

/-- (*world.Clock).Tick -/
def g_world_Clock_Tick (c : Option Addr) (by_ : Sl) (K : Int → Int → Heap → Prop) (h : Heap) : Prop :=
  bindI 0 fun t => 
  bindI 0 fun t1 => 
  iteP c.isNone (
    bindI 0 fun t2 => 
    bindI 1 fun t3 => 
    K t2 t3 h) (
    derefP c fun b o => 
    ldI h b o .i64 fun t4 => 
    bindI t4 fun at_ => 
    loopM (σ := Int × Int × Unit) (fun J6 s h7 =>
      (fun (at_5 : Int) (s17 : Int) =>
        iteP (decide (s17 < (by_.len : Int))) (
          idxA by_.ptr by_.len s17 1 fun b8 o9 => 
          ldI h7 b8 o9 .i64 fun t10 => 
          bindI t10 fun n => 
          iteP (decide (n < 0)) (
            bindI 0 fun t11 => 
            bindI 2 fun t12 => 
            K t11 t12 h7) (
            iteP (decide (n > (IntKind.wrap .i64 ((1152921504606846976 : Int) - at_5)))) (
              bindI 0 fun t13 => 
              bindI 2 fun t14 => 
              K t13 t14 h7) (
              bindI (IntKind.wrap .i64 (at_5 + n)) fun at_15 => 
              J6 (at_15, IntKind.wrap .i64 (s17 + 1), ()) h7))) (
          derefP c fun b16 o17 => 
          st h7 b16 o17 (Value.int .i64 at_5) fun h18 => 
          bindI at_5 fun t19 => 
          bindI 0 fun t20 => 
          K t19 t20 h18)) s.1 s.2.1) (at_, 0, ()) h)

def m_world_Clock_Tick (c : Option Addr) (by_ : Sl) (K : Int → Int → Heap → Prop) (h : Heap) : Prop := g_world_Clock_Tick c by_ K h

/-- world.NewChance -/
def g_world_NewChance (seed : Int) (K : (Option Addr) → Heap → Prop) (h : Heap) : Prop :=
  newC h [Value.int .u64 seed] 104 fun b h1 => 
  K (some ⟨b, 0, none⟩) h1

def m_world_NewChance (seed : Int) (K : (Option Addr) → Heap → Prop) (h : Heap) : Prop := g_world_NewChance seed K h

/-- slices.Clone[[]world.Sample,world.Sample] -/
def g_slices_Clone_world_Sample_world_Sample_ (s : Sl) (K : Sl → Heap → Prop) (h : Heap) : Prop :=
  iteP s.ptr.isNone (
    K ⟨none, 0, 0⟩ h) (
    newC h [] 66 fun b h1 => 
    rdS s 3 h1 fun new => app 66 3 24 [Value.int .i64 0, Value.int .i64 0, Value.int .i64 0] ⟨some ⟨b, 0, none⟩, 0, 0⟩ s.len new h1 fun t h2 => 
    K t h2)

def m_slices_Clone_world_Sample_world_Sample_ (s : Sl) (K : Sl → Heap → Prop) (h : Heap) : Prop := g_slices_Clone_world_Sample_world_Sample_ s K h

/-- (*world.Load).Add$1 -/
def g_world_Load_Add_1 (n : Int) (K : Bool → Heap → Prop) (h : Heap) : Prop :=
  iteP (decide (n ≥ 0)) (
    bindB (decide (n ≤ 1099511627776)) fun t => 
    K t h) (
    K false h)

def m_world_Load_Add_1 (n : Int) (K : Bool → Heap → Prop) (h : Heap) : Prop := g_world_Load_Add_1 n K h

/-- (*world.Load).Add -/
def g_world_Load_Add (f_slices_Clone_world_Sample_world_Sample_ : Sl → (Sl → Heap → Prop) → Heap → Prop) (f_world_isTime : Int → (Bool → Heap → Prop) → Heap → Prop) (f_world_Load_Add_1 : Int → (Bool → Heap → Prop) → Heap → Prop) (l : Option Addr) (s : Sl) (K : Int → Heap → Prop) (h : Heap) : Prop :=
  bindI 0 fun t => 
  iteP l.isNone (
    bindI 1 fun t1 => 
    K t1 h) (
    derefP l fun b o => 
    ldL h b o fun t2 => 
    f_slices_Clone_world_Sample_world_Sample_ t2 (fun t3 h4 =>
      loopM (σ := Sl × Int × Unit) (fun J5 s6 h7 =>
        (fun (next : Sl) (s19 : Int) =>
          iteP (decide (s19 < (s.len : Int))) (
            idxA s.ptr s.len s19 3 fun b8 o9 => 
            ldI h7 b8 o9 .i64 fun t10 => ldI h7 b8 (o9 + 1) .i64 fun t11 => ldI h7 b8 (o9 + 2) .i64 fun t12 => 
            newC h7 [Value.int .i64 0, Value.int .i64 0, Value.int .i64 0] 66 fun b13 h14 => 
            sts h14 b13 0 [Value.int .i64 t10, Value.int .i64 t11, Value.int .i64 t12] fun h15 => 
            bindI (next.len : Int) fun n => 
            ldI h15 b13 0 .i64 fun t16 => 
            f_world_isTime t16 (fun t17 h18 =>
              iteP (!t17) (
                bindI 2 fun t19 => 
                K t19 h18) (
                ldI h18 b13 (0 + 1) .i64 fun t20 => 
                f_world_Load_Add_1 t20 (fun t21 h22 =>
                  iteP (!t21) (
                    bindI 2 fun t23 => 
                    K t23 h22) (
                    ldI h22 b13 (0 + 2) .i64 fun t24 => 
                    f_world_Load_Add_1 t24 (fun t25 h26 =>
                      bindB (!t25) fun t27 => 
                      iteP t27 (
                        bindI 2 fun t28 => 
                        K t28 h26) (
                        iteP (decide (n > 0)) (
                          ldI h26 b13 0 .i64 fun t29 => 
                          idxA next.ptr next.len (IntKind.wrap .i64 (n - 1)) 3 fun b30 o31 => 
                          ldI h26 b30 o31 .i64 fun t32 => 
                          bindB (decide (t29 < t32)) fun t33 => 
                          iteP t33 (
                            bindI 7 fun t34 => 
                            K t34 h26) (
                            bindB (decide (n ≥ 4096)) fun t35 => 
                            iteP t35 (
                              bindI 3 fun t36 => 
                              K t36 h26) (
                              ldI h26 b13 0 .i64 fun t37 => ldI h26 b13 (0 + 1) .i64 fun t38 => ldI h26 b13 (0 + 2) .i64 fun t39 => 
                              newC h26 [Value.int .i64 t37, Value.int .i64 t38, Value.int .i64 t39] 66 fun b40 h41 => 
                              rdS ⟨some ⟨b40, 0, none⟩, 1, 1⟩ 3 h41 fun new => app 66 3 24 [Value.int .i64 0, Value.int .i64 0, Value.int .i64 0] next 1 new h41 fun t42 h43 => 
                              J5 (t42, IntKind.wrap .i64 (s19 + 1), ()) h43))) (
                          bindB (decide (n ≥ 4096)) fun t44 => 
                          iteP t44 (
                            bindI 3 fun t45 => 
                            K t45 h26) (
                            ldI h26 b13 0 .i64 fun t46 => ldI h26 b13 (0 + 1) .i64 fun t47 => ldI h26 b13 (0 + 2) .i64 fun t48 => 
                            newC h26 [Value.int .i64 t46, Value.int .i64 t47, Value.int .i64 t48] 66 fun b49 h50 => 
                            rdS ⟨some ⟨b49, 0, none⟩, 1, 1⟩ 3 h50 fun new53 => app 66 3 24 [Value.int .i64 0, Value.int .i64 0, Value.int .i64 0] next 1 new53 h50 fun t51 h52 => 
                            J5 (t51, IntKind.wrap .i64 (s19 + 1), ()) h52)))) h22)) h18)) h15) (
            derefP l fun b54 o55 => 
            st h7 b54 o55 (Value.slice next.ptr next.len next.cap) fun h56 => 
            bindI 0 fun t57 => 
            K t57 h56)) s6.1 s6.2.1) (t3, 0, ()) h4) h)

def m_world_Load_Add (l : Option Addr) (s : Sl) (K : Int → Heap → Prop) (h : Heap) : Prop := g_world_Load_Add m_slices_Clone_world_Sample_world_Sample_ m_world_isTime m_world_Load_Add_1 l s K h

/-- world.NewLoad -/
def g_world_NewLoad (f_world_Load_Add : (Option Addr) → Sl → (Int → Heap → Prop) → Heap → Prop) (l : Sl) (K : (Option Addr) → Int → Heap → Prop) (h : Heap) : Prop :=
  bindI 0 fun t => 
  newC h [Value.slice none 0 0] 101 fun b h1 => 
  f_world_Load_Add (some ⟨b, 0, none⟩) l (fun t2 h3 =>
    bindI t2 fun e => 
    iteP (e != 0) (
      bindI e fun t4 => 
      K none t4 h3) (
      bindI 0 fun t5 => 
      K (some ⟨b, 0, none⟩) t5 h3)) h1

def m_world_NewLoad (l : Sl) (K : (Option Addr) → Int → Heap → Prop) (h : Heap) : Prop := g_world_NewLoad m_world_Load_Add l K h

/-- (*world.Clock).Set -/
def g_world_Clock_Set (f_world_isTime : Int → (Bool → Heap → Prop) → Heap → Prop) (c : Option Addr) (at_ : Int) (K : Int → Heap → Prop) (h : Heap) : Prop :=
  bindI 0 fun t => 
  bindB c.isNone fun t1 => 
  iteP t1 (
    bindI 1 fun t2 => 
    K t2 h) (
    f_world_isTime at_ (fun t3 h4 =>
      bindB (!t3) fun t5 => 
      iteP t5 (
        bindI 2 fun t6 => 
        K t6 h4) (
        derefP c fun b o => 
        ldI h4 b o .i64 fun t7 => 
        bindB (decide (at_ < t7)) fun t8 => 
        iteP t8 (
          bindI 7 fun t9 => 
          K t9 h4) (
          derefP c fun b10 o11 => 
          st h4 b10 o11 (Value.int .i64 at_) fun h12 => 
          bindI 0 fun t13 => 
          K t13 h12))) h)

def m_world_Clock_Set (c : Option Addr) (at_ : Int) (K : Int → Heap → Prop) (h : Heap) : Prop := g_world_Clock_Set m_world_isTime c at_ K h

/-- world.Mix -/
def g_world_Mix (x : Int) (K : Int → Heap → Prop) (h : Heap) : Prop :=
  bindI 0 fun t => 
  need (0 ≤ (30 : Int)) <| 
  bindI (IntKind.wrap .u64 ((xorV .u64 x (shrV .u64 x 30)) * 13787848793156543929)) fun x1 => 
  need (0 ≤ (27 : Int)) <| 
  bindI (IntKind.wrap .u64 ((xorV .u64 x1 (shrV .u64 x1 27)) * 10723151780598845931)) fun x2 => 
  need (0 ≤ (31 : Int)) <| 
  bindI (xorV .u64 x2 (shrV .u64 x2 31)) fun t3 => 
  K t3 h

def m_world_Mix (x : Int) (K : Int → Heap → Prop) (h : Heap) : Prop := g_world_Mix x K h

/-- (*world.Chance).Next -/
def g_world_Chance_Next (f_world_Mix : Int → (Int → Heap → Prop) → Heap → Prop) (c : Option Addr) (K : Int → Heap → Prop) (h : Heap) : Prop :=
  bindI 0 fun t => 
  iteP c.isNone (
    bindI 0 fun t1 => 
    K t1 h) (
    derefP c fun b o => 
    ldI h b o .u64 fun t2 => 
    derefP c fun b3 o4 => 
    st h b3 o4 (Value.int .u64 (IntKind.wrap .u64 (t2 + 11400714819323198485))) fun h5 => 
    derefP c fun b6 o7 => 
    ldI h5 b6 o7 .u64 fun t8 => 
    f_world_Mix t8 (fun t9 h10 =>
      bindI t9 fun t11 => 
      K t11 h10) h5)

def m_world_Chance_Next (c : Option Addr) (K : Int → Heap → Prop) (h : Heap) : Prop := g_world_Chance_Next m_world_Mix c K h

/-- (*world.Load).At -/
def g_world_Load_At (l : Option Addr) (at_ : Int) (K : (Int × Int × Int × Unit) → Heap → Prop) (h : Heap) : Prop :=
  newC h [Value.int .i64 0, Value.int .i64 0, Value.int .i64 0] 66 fun b h1 => 
  newC h1 [Value.int .i64 0, Value.int .i64 0, Value.int .i64 0] 66 fun b2 h3 => 
  iteP l.isNone (
    ldI h3 b2 0 .i64 fun t => ldI h3 b2 (0 + 1) .i64 fun t4 => ldI h3 b2 (0 + 2) .i64 fun t5 => 
    sts h3 b 0 [Value.int .i64 t, Value.int .i64 t4, Value.int .i64 t5] fun h6 => 
    ldI h6 b 0 .i64 fun t7 => ldI h6 b (0 + 1) .i64 fun t8 => ldI h6 b (0 + 2) .i64 fun t9 => K (t7, t8, t9, ()) h6) (
    derefP l fun b10 o => 
    ldL h3 b10 o fun t11 => 
    loopM (σ := Int × Unit) (fun J12 s h13 =>
      (fun (s16 : Int) =>
        iteP (decide (s16 < (t11.len : Int))) (
          idxA t11.ptr t11.len s16 3 fun b14 o15 => 
          ldI h13 b14 o15 .i64 fun t16 => ldI h13 b14 (o15 + 1) .i64 fun t17 => ldI h13 b14 (o15 + 2) .i64 fun t18 => 
          newC h13 [Value.int .i64 0, Value.int .i64 0, Value.int .i64 0] 66 fun b19 h20 => 
          sts h20 b19 0 [Value.int .i64 t16, Value.int .i64 t17, Value.int .i64 t18] fun h21 => 
          ldI h21 b19 0 .i64 fun t22 => 
          iteP (decide (t22 ≤ at_)) (
            ldI h21 b19 0 .i64 fun t23 => ldI h21 b19 (0 + 1) .i64 fun t24 => ldI h21 b19 (0 + 2) .i64 fun t25 => 
            sts h21 b2 0 [Value.int .i64 t23, Value.int .i64 t24, Value.int .i64 t25] fun h26 => 
            J12 (IntKind.wrap .i64 (s16 + 1), ()) h26) (
            J12 (IntKind.wrap .i64 (s16 + 1), ()) h21)) (
          ldI h13 b2 0 .i64 fun t27 => ldI h13 b2 (0 + 1) .i64 fun t28 => ldI h13 b2 (0 + 2) .i64 fun t29 => 
          sts h13 b 0 [Value.int .i64 t27, Value.int .i64 t28, Value.int .i64 t29] fun h30 => 
          ldI h30 b 0 .i64 fun t31 => ldI h30 b (0 + 1) .i64 fun t32 => ldI h30 b (0 + 2) .i64 fun t33 => K (t31, t32, t33, ()) h30)) s.1) (0, ()) h3)

def m_world_Load_At (l : Option Addr) (at_ : Int) (K : (Int × Int × Int × Unit) → Heap → Prop) (h : Heap) : Prop := g_world_Load_At l at_ K h

/-- spillwaylaw02.live -/
def g_spillwaylaw02_live (f_world_NewClock : Int → ((Option Addr) → Int → Heap → Prop) → Heap → Prop) (f_world_Clock_Tick : (Option Addr) → Sl → (Int → Int → Heap → Prop) → Heap → Prop) (f_world_NewChance : Int → ((Option Addr) → Heap → Prop) → Heap → Prop) (f_world_NewLoad : Sl → ((Option Addr) → Int → Heap → Prop) → Heap → Prop) (f_world_Clock_Set : (Option Addr) → Int → (Int → Heap → Prop) → Heap → Prop) (f_world_Chance_Next : (Option Addr) → (Int → Heap → Prop) → Heap → Prop) (f_world_Load_At : (Option Addr) → Int → ((Int × Int × Int × Unit) → Heap → Prop) → Heap → Prop) (K : Bool → Heap → Prop) (h : Heap) : Prop :=
  f_world_NewClock 5 (fun t t1 h2 =>
    bindI t1 fun e => 
    iteP (e != 0) (
      K false h2) (
      iteP t.isNone (
        K false h2) (
        newC h2 [Value.int .i64 1, Value.int .i64 2] 3 fun b h3 => 
        f_world_Clock_Tick t ⟨some ⟨b, 0, none⟩, 2, 2⟩ (fun t4 t5 h6 =>
          bindI t4 fun n => 
          bindI t5 fun f => 
          f_world_NewChance 0 (fun t7 h8 =>
            newC h8 [Value.int .i64 10, Value.int .i64 1500, Value.int .i64 300] 66 fun b9 h10 => 
            f_world_NewLoad ⟨some ⟨b9, 0, none⟩, 1, 1⟩ (fun t11 t12 h13 =>
              bindI t12 fun g => 
              iteP (f == 0) (
                iteP (n == 8) (
                  f_world_Clock_Set t 7 (fun t14 h15 =>
                    iteP (t14 == 7) (
                      f_world_Chance_Next t7 (fun t16 h17 =>
                        iteP (t16 == 16294208416658607535) (
                          f_world_Chance_Next t7 (fun t18 h19 =>
                            iteP (t18 == 7960286522194355700) (
                              iteP (g == 0) (
                                f_world_Load_At t11 15 (fun t20 h21 =>
                                  iteP (t20.2.1 == 1500) (
                                    f_world_Load_At t11 9 (fun t22 h23 =>
                                      bindB (t22.2.1 == 0) fun t24 => 
                                      K t24 h23) h21) (
                                    K false h21)) h19) (
                                K false h19)) (
                              K false h19)) h17) (
                          K false h17)) h15) (
                      K false h15)) h13) (
                  K false h13)) (
                K false h13)) h10) h6) h3))) h

def m_spillwaylaw02_live (K : Bool → Heap → Prop) (h : Heap) : Prop := g_spillwaylaw02_live m_world_NewClock m_world_Clock_Tick m_world_NewChance m_world_NewLoad m_world_Clock_Set m_world_Chance_Next m_world_Load_At  K h

/-- (*world.Clock).Now -/
def g_world_Clock_Now (c : Option Addr) (K : Int → Heap → Prop) (h : Heap) : Prop :=
  bindI 0 fun t => 
  iteP c.isNone (
    bindI 0 fun t1 => 
    K t1 h) (
    derefP c fun b o => 
    ldI h b o .i64 fun t2 => 
    bindI t2 fun t3 => 
    K t3 h)

def m_world_Clock_Now (c : Option Addr) (K : Int → Heap → Prop) (h : Heap) : Prop := g_world_Clock_Now c K h

/-- spillwaylaw02.WorldTicks -/
def g_spillwaylaw02_WorldTicks (f_spillwaylaw02_live : (Bool → Heap → Prop) → Heap → Prop) (f_world_NewClock : Int → ((Option Addr) → Int → Heap → Prop) → Heap → Prop) (f_world_Clock_Tick : (Option Addr) → Sl → (Int → Int → Heap → Prop) → Heap → Prop) (f_world_Clock_Now : (Option Addr) → (Int → Heap → Prop) → Heap → Prop) (at_ : Int) (by_ : Sl) (K : Bool → Heap → Prop) (h : Heap) : Prop :=
  f_spillwaylaw02_live (fun t h1 =>
    iteP (!t) (
      K false h1) (
      f_world_NewClock (IntKind.wrap .i64 at_) (fun t2 t3 h4 =>
        bindI t3 fun e => 
        f_world_NewClock (IntKind.wrap .i64 at_) (fun t5 t6 h7 =>
          bindI t6 fun f => 
          iteP (e != 0) (
            K false h7) (
            iteP (f != 0) (
              K false h7) (
              bindI 0 fun sum => 
              cutP (σ := Int × Sl × Unit) (fun s33 h34 =>
                (fun (sum31 : Int) (all32 : Sl) =>
                  f_world_Clock_Tick t5 all32 (fun t35 t36 h37 =>
                    bindI t35 fun n => 
                    bindI t36 fun g38 => 
                    iteP (g38 == 0) (
                      iteP (n == (IntKind.wrap .i64 ((IntKind.wrap .i64 at_) + sum31))) (
                        f_world_Clock_Now t2 (fun t39 h40 =>
                          bindB (t39 == n) fun t41 => 
                          K t41 h40) h37) (
                        K false h37)) (
                      K false h37)) h34) s33.1 s33.2.1) (fun J8 =>
                bindI 0 fun i => 
                loopM (σ := Int × Sl × Int × Unit) (fun J11 s h12 =>
                  (fun (sum9 : Int) (all : Sl) (i10 : Int) =>
                    iteP (decide (i10 < (by_.len : Int))) (
                      iteP (decide (i10 < 1000)) (
                        idxA by_.ptr by_.len i10 1 fun b o => 
                        ldI h12 b o .u32 fun t13 => 
                        newC h12 [Value.int .i64 (IntKind.wrap .i64 t13)] 3 fun b14 h15 => 
                        f_world_Clock_Tick t2 ⟨some ⟨b14, 0, none⟩, 1, 1⟩ (fun t16 t17 h18 =>
                          bindI t16 fun _ => 
                          bindI t17 fun g => 
                          iteP (g != 0) (
                            K false h18) (
                            idxA by_.ptr by_.len i10 1 fun b19 o20 => 
                            ldI h18 b19 o20 .u32 fun t21 => 
                            bindI (IntKind.wrap .i64 (sum9 + (IntKind.wrap .i64 t21))) fun sum22 => 
                            idxA by_.ptr by_.len i10 1 fun b23 o24 => 
                            ldI h18 b23 o24 .u32 fun t25 => 
                            newC h18 [Value.int .i64 (IntKind.wrap .i64 t25)] 3 fun b26 h27 => 
                            rdS ⟨some ⟨b26, 0, none⟩, 1, 1⟩ 1 h27 fun new => app 3 1 8 [Value.int .i64 0] all 1 new h27 fun t28 h29 => 
                            bindI (IntKind.wrap .i64 (i10 + 1)) fun i30 => 
                            J11 (sum22, t28, i30, ()) h29)) h15) (
                        J8 (sum9, all, ()) h12)) (
                      J8 (sum9, all, ()) h12)) s.1 s.2.1 s.2.2.1) (sum, ⟨none, 0, 0⟩, i, ()) h7)))) h4) h1)) h

def m_spillwaylaw02_WorldTicks (at_ : Int) (by_ : Sl) (K : Bool → Heap → Prop) (h : Heap) : Prop := g_spillwaylaw02_WorldTicks m_spillwaylaw02_live m_world_NewClock m_world_Clock_Tick m_world_Clock_Now at_ by_ K h

/-- spillwayref02.IsTime -/
def g_spillwayref02_IsTime (at_ : Int) (K : Bool → Heap → Prop) (h : Heap) : Prop :=
  iteP (decide (at_ ≥ 0)) (
    bindB (decide (at_ ≤ 1152921504606846976)) fun t => 
    K t h) (
    K false h)

def m_spillwayref02_IsTime (at_ : Int) (K : Bool → Heap → Prop) (h : Heap) : Prop := g_spillwayref02_IsTime at_ K h

/-- spillwayref02.NewClock -/
def g_spillwayref02_NewClock (f_spillwayref02_IsTime : Int → (Bool → Heap → Prop) → Heap → Prop) (at_ : Int) (K : (Option Addr) → Int → Heap → Prop) (h : Heap) : Prop :=
  bindI 0 fun t => 
  f_spillwayref02_IsTime at_ (fun t1 h2 =>
    iteP (!t1) (
      bindI 2 fun t3 => 
      K none t3 h2) (
      newC h2 [Value.int .i64 at_] 45 fun b h4 => 
      bindI 0 fun t5 => 
      K (some ⟨b, 0, none⟩) t5 h4)) h

def m_spillwayref02_NewClock (at_ : Int) (K : (Option Addr) → Int → Heap → Prop) (h : Heap) : Prop := g_spillwayref02_NewClock m_spillwayref02_IsTime at_ K h

/-- spillwaymem.HandInts -/
def g_spillwaymem_HandInts (l : Sl) (K : Sl → Heap → Prop) (h : Heap) : Prop :=
  mkS 3 8 [Value.int .i64 0] (IntKind.wrap .i64 ((l.len : Int) + 9)) (IntKind.wrap .i64 ((l.len : Int) + 9)) h fun t h1 => 
  bindI 0 fun i => 
  loopM (σ := Int × Unit) (fun J3 s h4 =>
    (fun (i2 : Int) =>
      iteP (decide (i2 < (l.len : Int))) (
        idxA l.ptr l.len i2 1 fun b o => 
        ldI h4 b o .i64 fun t5 => 
        idxA t.ptr t.len i2 1 fun b6 o7 => 
        st h4 b6 o7 (Value.int .i64 t5) fun h8 => 
        bindI (IntKind.wrap .i64 (i2 + 1)) fun i9 => 
        J3 (i9, ()) h8) (
        bindI (l.len : Int) fun i10 => 
        loopM (σ := Int × Unit) (fun J12 s13 h14 =>
          (fun (i11 : Int) =>
            iteP (decide (i11 < (t.len : Int))) (
              idxA t.ptr t.len i11 1 fun b15 o16 => 
              st h14 b15 o16 (Value.int .i64 (IntKind.wrap .i64 ((IntKind.wrap .i64 ((-700 : Int) - i11)) + (l.len : Int)))) fun h17 => 
              bindI (IntKind.wrap .i64 (i11 + 1)) fun i18 => 
              J12 (i18, ()) h17) (
              slc t.ptr t.cap 1 0 (l.len : Int) t.cap fun t19 => 
              K t19 h14)) s13.1) (i10, ()) h4)) s.1) (i, ()) h1

def m_spillwaymem_HandInts (l : Sl) (K : Sl → Heap → Prop) (h : Heap) : Prop := g_spillwaymem_HandInts l K h

/-- (*spillwayref02.Clock).Tick -/
def g_spillwayref02_Clock_Tick (c : Option Addr) (by_ : Sl) (K : Int → Int → Heap → Prop) (h : Heap) : Prop :=
  bindI 0 fun t => 
  bindI 0 fun t1 => 
  iteP c.isNone (
    bindI 0 fun t2 => 
    bindI 1 fun t3 => 
    K t2 t3 h) (
    derefP c fun b o => 
    ldI h b o .i64 fun t4 => 
    bindI t4 fun at_ => 
    bindI 0 fun i => 
    loopM (σ := Int × Int × Unit) (fun J7 s h8 =>
      (fun (at_5 : Int) (i6 : Int) =>
        iteP (decide (i6 < (by_.len : Int))) (
          idxA by_.ptr by_.len i6 1 fun b9 o10 => 
          ldI h8 b9 o10 .i64 fun t11 => 
          iteP (decide (t11 < 0)) (
            bindI 0 fun t12 => 
            bindI 2 fun t13 => 
            K t12 t13 h8) (
            idxA by_.ptr by_.len i6 1 fun b14 o15 => 
            ldI h8 b14 o15 .i64 fun t16 => 
            iteP (decide (t16 > (IntKind.wrap .i64 ((1152921504606846976 : Int) - at_5)))) (
              bindI 0 fun t17 => 
              bindI 2 fun t18 => 
              K t17 t18 h8) (
              idxA by_.ptr by_.len i6 1 fun b19 o20 => 
              ldI h8 b19 o20 .i64 fun t21 => 
              bindI (IntKind.wrap .i64 (at_5 + t21)) fun at_22 => 
              bindI (IntKind.wrap .i64 (i6 + 1)) fun i23 => 
              J7 (at_22, i23, ()) h8))) (
          derefP c fun b24 o25 => 
          st h8 b24 o25 (Value.int .i64 at_5) fun h26 => 
          bindI at_5 fun t27 => 
          bindI 0 fun t28 => 
          K t27 t28 h26)) s.1 s.2.1) (at_, i, ()) h)

def m_spillwayref02_Clock_Tick (c : Option Addr) (by_ : Sl) (K : Int → Int → Heap → Prop) (h : Heap) : Prop := g_spillwayref02_Clock_Tick c by_ K h

/-- (*spillwayref02.Clock).Set -/
def g_spillwayref02_Clock_Set (f_spillwayref02_IsTime : Int → (Bool → Heap → Prop) → Heap → Prop) (c : Option Addr) (at_ : Int) (K : Int → Heap → Prop) (h : Heap) : Prop :=
  bindI 0 fun t => 
  bindB c.isNone fun t1 => 
  iteP t1 (
    bindI 1 fun t2 => 
    K t2 h) (
    f_spillwayref02_IsTime at_ (fun t3 h4 =>
      bindB (!t3) fun t5 => 
      iteP t5 (
        bindI 2 fun t6 => 
        K t6 h4) (
        derefP c fun b o => 
        ldI h4 b o .i64 fun t7 => 
        bindB (decide (at_ < t7)) fun t8 => 
        iteP t8 (
          bindI 7 fun t9 => 
          K t9 h4) (
          derefP c fun b10 o11 => 
          st h4 b10 o11 (Value.int .i64 at_) fun h12 => 
          bindI 0 fun t13 => 
          K t13 h12))) h)

def m_spillwayref02_Clock_Set (c : Option Addr) (at_ : Int) (K : Int → Heap → Prop) (h : Heap) : Prop := g_spillwayref02_Clock_Set m_spillwayref02_IsTime c at_ K h

/-- (*world.Clock).Fork -/
def g_world_Clock_Fork (c : Option Addr) (K : (Option Addr) → Heap → Prop) (h : Heap) : Prop :=
  iteP c.isNone (
    K none h) (
    derefP c fun b o => 
    ldI h b o .i64 fun t => 
    newC h [Value.int .i64 t] 99 fun b1 h2 => 
    K (some ⟨b1, 0, none⟩) h2)

def m_world_Clock_Fork (c : Option Addr) (K : (Option Addr) → Heap → Prop) (h : Heap) : Prop := g_world_Clock_Fork c K h

/-- spillwaymem.SameInts -/
def g_spillwaymem_SameInts (a : Sl) (b : Sl) (K : Bool → Heap → Prop) (h : Heap) : Prop :=
  iteP ((a.len : Int) != (b.len : Int)) (
    K false h) (
    bindI 0 fun i => 
    loopM (σ := Int × Unit) (fun J2 s h3 =>
      (fun (i1 : Int) =>
        iteP (decide (i1 < (a.len : Int))) (
          idxA a.ptr a.len i1 1 fun b4 o => 
          ldI h3 b4 o .i64 fun t => 
          idxA b.ptr b.len i1 1 fun b5 o6 => 
          ldI h3 b5 o6 .i64 fun t7 => 
          iteP (t != t7) (
            K false h3) (
            bindI (IntKind.wrap .i64 (i1 + 1)) fun i8 => 
            J2 (i8, ()) h3)) (
          K true h3)) s.1) (i, ()) h)

def m_spillwaymem_SameInts (a : Sl) (b : Sl) (K : Bool → Heap → Prop) (h : Heap) : Prop := g_spillwaymem_SameInts a b K h

/-- spillwaymem.KeptInts -/
def g_spillwaymem_KeptInts (f_spillwaymem_SameInts : Sl → Sl → (Bool → Heap → Prop) → Heap → Prop) (in_ : Sl) (l : Sl) (K : Bool → Heap → Prop) (h : Heap) : Prop :=
  f_spillwaymem_SameInts in_ l (fun t h1 =>
    iteP (!t) (
      K false h1) (
      slc in_.ptr in_.cap 1 0 (IntKind.wrap .i64 ((l.len : Int) + 9)) in_.cap fun t2 => 
      bindI (l.len : Int) fun i => 
      loopM (σ := Int × Unit) (fun J4 s h5 =>
        (fun (i3 : Int) =>
          iteP (decide (i3 < (t2.len : Int))) (
            idxA t2.ptr t2.len i3 1 fun b o => 
            ldI h5 b o .i64 fun t6 => 
            iteP (t6 != (IntKind.wrap .i64 ((IntKind.wrap .i64 ((-700 : Int) - i3)) + (l.len : Int)))) (
              K false h5) (
              bindI (IntKind.wrap .i64 (i3 + 1)) fun i7 => 
              J4 (i7, ()) h5)) (
            K true h5)) s.1) (i, ()) h1)) h

def m_spillwaymem_KeptInts (in_ : Sl) (l : Sl) (K : Bool → Heap → Prop) (h : Heap) : Prop := g_spillwaymem_KeptInts m_spillwaymem_SameInts in_ l K h

/-- spillwaylaw02.WorldClocks -/
def g_spillwaylaw02_WorldClocks (f_world_NewClock : Int → ((Option Addr) → Int → Heap → Prop) → Heap → Prop) (f_spillwayref02_NewClock : Int → ((Option Addr) → Int → Heap → Prop) → Heap → Prop) (f_spillwaylaw02_live : (Bool → Heap → Prop) → Heap → Prop) (f_spillwaymem_HandInts : Sl → (Sl → Heap → Prop) → Heap → Prop) (f_world_Clock_Tick : (Option Addr) → Sl → (Int → Int → Heap → Prop) → Heap → Prop) (f_spillwayref02_Clock_Tick : (Option Addr) → Sl → (Int → Int → Heap → Prop) → Heap → Prop) (f_world_Clock_Set : (Option Addr) → Int → (Int → Heap → Prop) → Heap → Prop) (f_spillwayref02_Clock_Set : (Option Addr) → Int → (Int → Heap → Prop) → Heap → Prop) (f_world_Clock_Fork : (Option Addr) → ((Option Addr) → Heap → Prop) → Heap → Prop) (f_world_Clock_Now : (Option Addr) → (Int → Heap → Prop) → Heap → Prop) (f_spillwaymem_KeptInts : Sl → Sl → (Bool → Heap → Prop) → Heap → Prop) (at_ : Int) (l : Sl) (K : Bool → Heap → Prop) (h : Heap) : Prop :=
  f_world_NewClock at_ (fun t t1 h2 =>
    bindI t1 fun e => 
    f_spillwayref02_NewClock at_ (fun t3 t4 h5 =>
      bindI t4 fun f => 
      f_spillwaylaw02_live (fun t6 h7 =>
        iteP (!t6) (
          K false h7) (
          iteP (e != f) (
            K false h7) (
            iteP (t.isNone != t3.isNone) (
              K false h7) (
              iteP (e != 0) (
                K true h7) (
                bindI 0 fun i => 
                loopM (σ := Option Addr × Sl × Sl × Int × Unit) (fun J9 s h10 =>
                  (fun (c : Option Addr) (old : Sl) (were : Sl) (i8 : Int) =>
                    iteP (decide (i8 < (l.len : Int))) (
                      idxA l.ptr l.len i8 3 fun b o => 
                      ldL h10 b (o + 2) fun t11 => 
                      f_spillwaymem_HandInts t11 (fun t12 h13 =>
                        cutP (σ := Option Addr × Sl × Sl × Unit) (fun s58 h59 =>
                          (fun (c55 : Option Addr) (old56 : Sl) (were57 : Sl) =>
                            derefP t3 fun b60 o61 => 
                            ldI h59 b60 o61 .i64 fun t62 => 
                            f_world_Clock_Now c55 (fun t63 h64 =>
                              need (heldL h64 [(b60, o61, Value.int .i64 t62)]) <|
                              iteP (t63 != t62) (
                                K false h64) (
                                idxA l.ptr l.len i8 3 fun b65 o66 => 
                                ldL h64 b65 (o66 + 2) fun t67 => 
                                f_spillwaymem_KeptInts t12 t67 (fun t68 h69 =>
                                  need (heldL h69 [(b60, o61, Value.int .i64 t62)]) <|
                                  iteP (!t68) (
                                    K false h69) (
                                    bindI (IntKind.wrap .i64 (i8 + 1)) fun i70 => 
                                    J9 (c55, old56, were57, i70, ()) h69)) h64)) h59) s58.1 s58.2.1 s58.2.2.1) (fun J14 =>
                          idxA l.ptr l.len i8 3 fun b15 o16 => 
                          ldI h13 b15 o16 .i64 fun t17 => 
                          bindB (t17 == 0) fun t18 => 
                          iteP t18 (
                            f_world_Clock_Tick c t12 (fun t19 t20 h21 =>
                              bindI t19 fun n => 
                              bindI t20 fun g => 
                              idxA l.ptr l.len i8 3 fun b22 o23 => 
                              ldL h21 b22 (o23 + 2) fun t24 => 
                              f_spillwayref02_Clock_Tick t3 t24 (fun t25 t26 h27 =>
                                bindI t25 fun m => 
                                bindI t26 fun h28 => 
                                iteP (n != m) (
                                  K false h27) (
                                  iteP (g != h28) (
                                    K false h27) (
                                    J14 (c, old, were, ()) h27))) h21) h13) (
                            bindB (t17 == 1) fun t29 => 
                            iteP t29 (
                              idxA l.ptr l.len i8 3 fun b30 o31 => 
                              idxA l.ptr l.len i8 3 fun b32 o33 => 
                              ldI h13 b30 (o31 + 1) .i64 fun t34 => 
                              ldI h13 b32 (o33 + 1) .i64 fun t35 => 
                              f_world_Clock_Set c t34 (fun t36 h37 =>
                                need (heldL h37 [(b32, o33 + 1, Value.int .i64 t35)]) <|
                                f_spillwayref02_Clock_Set t3 t35 (fun t38 h39 =>
                                  iteP (t36 != t38) (
                                    K false h39) (
                                    J14 (c, old, were, ()) h39)) h37) h13) (
                              bindB (t17 == 2) fun t40 => 
                              iteP t40 (
                                iteP (decide ((old.len : Int) < 6)) (
                                  newC h13 [Value.pointer c] 25 fun b41 h42 => 
                                  rdS ⟨some ⟨b41, 0, none⟩, 1, 1⟩ 1 h42 fun new => app 25 1 8 [Value.pointer none] old 1 new h42 fun t43 h44 => 
                                  derefP t3 fun b45 o46 => 
                                  ldI h44 b45 o46 .i64 fun t47 => 
                                  newC h44 [Value.int .i64 t47] 3 fun b48 h49 => 
                                  rdS ⟨some ⟨b48, 0, none⟩, 1, 1⟩ 1 h49 fun new52 => app 3 1 8 [Value.int .i64 0] were 1 new52 h49 fun t50 h51 => 
                                  f_world_Clock_Fork c (fun t53 h54 =>
                                    J14 (t53, t43, t50, ()) h54) h51) (
                                  J14 (c, old, were, ()) h13)) (
                                J14 (c, old, were, ()) h13))))) h10) (
                      bindI 0 fun i71 => 
                      loopM (σ := Int × Unit) (fun J73 s74 h75 =>
                        (fun (i72 : Int) =>
                          iteP (decide (i72 < (old.len : Int))) (
                            idxA old.ptr old.len i72 1 fun b76 o77 => 
                            idxA were.ptr were.len i72 1 fun b78 o79 => 
                            ldP h75 b76 o77 fun t80 => 
                            ldI h75 b78 o79 .i64 fun t81 => 
                            f_world_Clock_Now t80 (fun t82 h83 =>
                              need (heldL h83 [(b78, o79, Value.int .i64 t81)]) <|
                              iteP (t82 != t81) (
                                K false h83) (
                                bindI (IntKind.wrap .i64 (i72 + 1)) fun i84 => 
                                J73 (i84, ()) h83)) h75) (
                            K true h75)) s74.1) (i71, ()) h10)) s.1 s.2.1 s.2.2.1 s.2.2.2.1) (t, ⟨none, 0, 0⟩, ⟨none, 0, 0⟩, i, ()) h7))))) h5) h2) h

def m_spillwaylaw02_WorldClocks (at_ : Int) (l : Sl) (K : Bool → Heap → Prop) (h : Heap) : Prop := g_spillwaylaw02_WorldClocks m_world_NewClock m_spillwayref02_NewClock m_spillwaylaw02_live m_spillwaymem_HandInts m_world_Clock_Tick m_spillwayref02_Clock_Tick m_world_Clock_Set m_spillwayref02_Clock_Set m_world_Clock_Fork m_world_Clock_Now m_spillwaymem_KeptInts at_ l K h

/-- spillwaylaw02.samples -/
def g_spillwaylaw02_samples (l : Sl) (K : Sl → Heap → Prop) (h : Heap) : Prop :=
  bindI 0 fun i => 
  loopM (σ := Sl × Int × Unit) (fun J2 s h3 =>
    (fun (out : Sl) (i1 : Int) =>
      iteP (decide (i1 < (l.len : Int))) (
        idxA l.ptr l.len i1 3 fun b o => 
        idxA l.ptr l.len i1 3 fun b4 o5 => 
        idxA l.ptr l.len i1 3 fun b6 o7 => 
        ldI h3 b o .i64 fun t => 
        ldI h3 b4 (o5 + 1) .i64 fun t8 => 
        ldI h3 b6 (o7 + 2) .i64 fun t9 => 
        newC h3 [Value.int .i64 t, Value.int .i64 t8, Value.int .i64 t9] 66 fun b10 h11 => 
        need (heldL h11 [(b6, o7 + 2, Value.int .i64 t9)]) <|
        need (heldL h11 [(b4, o5 + 1, Value.int .i64 t8)]) <|
        need (heldL h11 [(b, o, Value.int .i64 t)]) <|
        rdS ⟨some ⟨b10, 0, none⟩, 1, 1⟩ 3 h11 fun new => app 66 3 24 [Value.int .i64 0, Value.int .i64 0, Value.int .i64 0] out 1 new h11 fun t12 h13 => 
        need (heldL h13 [(b6, o7 + 2, Value.int .i64 t9)]) <|
        need (heldL h13 [(b4, o5 + 1, Value.int .i64 t8)]) <|
        need (heldL h13 [(b, o, Value.int .i64 t)]) <|
        bindI (IntKind.wrap .i64 (i1 + 1)) fun i14 => 
        J2 (t12, i14, ()) h13) (
        K out h3)) s.1 s.2.1) (⟨none, 0, 0⟩, i, ()) h

def m_spillwaylaw02_samples (l : Sl) (K : Sl → Heap → Prop) (h : Heap) : Prop := g_spillwaylaw02_samples l K h

/-- (*spillwayref02.Load).Add -/
def g_spillwayref02_Load_Add (f_spillwayref02_IsTime : Int → (Bool → Heap → Prop) → Heap → Prop) (l : Option Addr) (s : Sl) (K : Int → Heap → Prop) (h : Heap) : Prop :=
  bindI 0 fun t => 
  iteP l.isNone (
    bindI 1 fun t1 => 
    K t1 h) (
    newC h [] 68 fun b h2 => 
    derefP l fun b3 o => 
    ldL h2 b3 o fun t4 => 
    rdS t4 3 h2 fun new => app 68 3 24 [Value.int .i64 0, Value.int .i64 0, Value.int .i64 0] ⟨some ⟨b, 0, none⟩, 0, 0⟩ t4.len new h2 fun t5 h6 => 
    bindI 0 fun i => 
    loopM (σ := Sl × Int × Unit) (fun J8 s9 h10 =>
      (fun (all : Sl) (i7 : Int) =>
        iteP (decide (i7 < (s.len : Int))) (
          idxA s.ptr s.len i7 3 fun b11 o12 => 
          ldI h10 b11 o12 .i64 fun t13 => ldI h10 b11 (o12 + 1) .i64 fun t14 => ldI h10 b11 (o12 + 2) .i64 fun t15 => 
          newC h10 [Value.int .i64 0, Value.int .i64 0, Value.int .i64 0] 68 fun b16 h17 => 
          sts h17 b16 0 [Value.int .i64 t13, Value.int .i64 t14, Value.int .i64 t15] fun h18 => 
          ldI h18 b16 0 .i64 fun t19 => 
          f_spillwayref02_IsTime t19 (fun t20 h21 =>
            iteP (!t20) (
              bindI 2 fun t22 => 
              K t22 h21) (
              ldI h21 b16 (0 + 1) .i64 fun t23 => 
              iteP (decide (t23 < 0)) (
                bindI 2 fun t24 => 
                K t24 h21) (
                ldI h21 b16 (0 + 1) .i64 fun t25 => 
                iteP (decide (t25 > 1099511627776)) (
                  bindI 2 fun t26 => 
                  K t26 h21) (
                  ldI h21 b16 (0 + 2) .i64 fun t27 => 
                  iteP (decide (t27 < 0)) (
                    bindI 2 fun t28 => 
                    K t28 h21) (
                    ldI h21 b16 (0 + 2) .i64 fun t29 => 
                    bindB (decide (t29 > 1099511627776)) fun t30 => 
                    iteP t30 (
                      bindI 2 fun t31 => 
                      K t31 h21) (
                      iteP (decide ((all.len : Int) > 0)) (
                        ldI h21 b16 0 .i64 fun t32 => 
                        idxA all.ptr all.len (IntKind.wrap .i64 ((all.len : Int) - 1)) 3 fun b33 o34 => 
                        ldI h21 b33 o34 .i64 fun t35 => 
                        bindB (decide (t32 < t35)) fun t36 => 
                        iteP t36 (
                          bindI 7 fun t37 => 
                          K t37 h21) (
                          bindB ((all.len : Int) == 4096) fun t38 => 
                          iteP t38 (
                            bindI 3 fun t39 => 
                            K t39 h21) (
                            ldI h21 b16 0 .i64 fun t40 => ldI h21 b16 (0 + 1) .i64 fun t41 => ldI h21 b16 (0 + 2) .i64 fun t42 => 
                            newC h21 [Value.int .i64 t40, Value.int .i64 t41, Value.int .i64 t42] 68 fun b43 h44 => 
                            rdS ⟨some ⟨b43, 0, none⟩, 1, 1⟩ 3 h44 fun new47 => app 68 3 24 [Value.int .i64 0, Value.int .i64 0, Value.int .i64 0] all 1 new47 h44 fun t45 h46 => 
                            bindI (IntKind.wrap .i64 (i7 + 1)) fun i48 => 
                            J8 (t45, i48, ()) h46))) (
                        bindB ((all.len : Int) == 4096) fun t49 => 
                        iteP t49 (
                          bindI 3 fun t50 => 
                          K t50 h21) (
                          ldI h21 b16 0 .i64 fun t51 => ldI h21 b16 (0 + 1) .i64 fun t52 => ldI h21 b16 (0 + 2) .i64 fun t53 => 
                          newC h21 [Value.int .i64 t51, Value.int .i64 t52, Value.int .i64 t53] 68 fun b54 h55 => 
                          rdS ⟨some ⟨b54, 0, none⟩, 1, 1⟩ 3 h55 fun new58 => app 68 3 24 [Value.int .i64 0, Value.int .i64 0, Value.int .i64 0] all 1 new58 h55 fun t56 h57 => 
                          bindI (IntKind.wrap .i64 (i7 + 1)) fun i59 => 
                          J8 (t56, i59, ()) h57)))))))) h18) (
          derefP l fun b60 o61 => 
          st h10 b60 o61 (Value.slice all.ptr all.len all.cap) fun h62 => 
          bindI 0 fun t63 => 
          K t63 h62)) s9.1 s9.2.1) (t5, i, ()) h6)

def m_spillwayref02_Load_Add (l : Option Addr) (s : Sl) (K : Int → Heap → Prop) (h : Heap) : Prop := g_spillwayref02_Load_Add m_spillwayref02_IsTime l s K h

/-- spillwayref02.NewLoad -/
def g_spillwayref02_NewLoad (f_spillwayref02_Load_Add : (Option Addr) → Sl → (Int → Heap → Prop) → Heap → Prop) (s : Sl) (K : (Option Addr) → Int → Heap → Prop) (h : Heap) : Prop :=
  bindI 0 fun t => 
  newC h [Value.slice none 0 0] 64 fun b h1 => 
  f_spillwayref02_Load_Add (some ⟨b, 0, none⟩) s (fun t2 h3 =>
    bindI t2 fun e => 
    iteP (e != 0) (
      bindI e fun t4 => 
      K none t4 h3) (
      bindI 0 fun t5 => 
      K (some ⟨b, 0, none⟩) t5 h3)) h1

def m_spillwayref02_NewLoad (s : Sl) (K : (Option Addr) → Int → Heap → Prop) (h : Heap) : Prop := g_spillwayref02_NewLoad m_spillwayref02_Load_Add s K h

/-- (*world.Load).Fork -/
def g_world_Load_Fork (f_slices_Clone_world_Sample_world_Sample_ : Sl → (Sl → Heap → Prop) → Heap → Prop) (l : Option Addr) (K : (Option Addr) → Heap → Prop) (h : Heap) : Prop :=
  iteP l.isNone (
    K none h) (
    derefP l fun b o => 
    ldL h b o fun t => 
    f_slices_Clone_world_Sample_world_Sample_ t (fun t1 h2 =>
      newC h2 [Value.slice t1.ptr t1.len t1.cap] 101 fun b3 h4 => 
      K (some ⟨b3, 0, none⟩) h4) h)

def m_world_Load_Fork (l : Option Addr) (K : (Option Addr) → Heap → Prop) (h : Heap) : Prop := g_world_Load_Fork m_slices_Clone_world_Sample_world_Sample_ l K h

/-- spillwaylaw02.same -/
def g_spillwaylaw02_same (l : Sl) (r : Sl) (K : Bool → Heap → Prop) (h : Heap) : Prop :=
  iteP ((l.len : Int) != (r.len : Int)) (
    K false h) (
    bindI 0 fun i => 
    loopM (σ := Int × Unit) (fun J2 s h3 =>
      (fun (i1 : Int) =>
        iteP (decide (i1 < (l.len : Int))) (
          idxA l.ptr l.len i1 3 fun b o => 
          ldI h3 b o .i64 fun t => 
          idxA r.ptr r.len i1 3 fun b4 o5 => 
          ldI h3 b4 o5 .i64 fun t6 => 
          iteP (t != t6) (
            K false h3) (
            idxA l.ptr l.len i1 3 fun b7 o8 => 
            ldI h3 b7 (o8 + 1) .i64 fun t9 => 
            idxA r.ptr r.len i1 3 fun b10 o11 => 
            ldI h3 b10 (o11 + 1) .i64 fun t12 => 
            iteP (t9 != t12) (
              K false h3) (
              idxA l.ptr l.len i1 3 fun b13 o14 => 
              ldI h3 b13 (o14 + 2) .i64 fun t15 => 
              idxA r.ptr r.len i1 3 fun b16 o17 => 
              ldI h3 b16 (o17 + 2) .i64 fun t18 => 
              iteP (t15 != t18) (
                K false h3) (
                bindI (IntKind.wrap .i64 (i1 + 1)) fun i19 => 
                J2 (i19, ()) h3)))) (
          K true h3)) s.1) (i, ()) h)

def m_spillwaylaw02_same (l : Sl) (r : Sl) (K : Bool → Heap → Prop) (h : Heap) : Prop := g_spillwaylaw02_same l r K h

/-- (*world.Load).Samples -/
def g_world_Load_Samples (f_slices_Clone_world_Sample_world_Sample_ : Sl → (Sl → Heap → Prop) → Heap → Prop) (l : Option Addr) (K : Sl → Heap → Prop) (h : Heap) : Prop :=
  iteP l.isNone (
    K ⟨none, 0, 0⟩ h) (
    derefP l fun b o => 
    ldL h b o fun t => 
    f_slices_Clone_world_Sample_world_Sample_ t (fun t1 h2 =>
      K t1 h2) h)

def m_world_Load_Samples (l : Option Addr) (K : Sl → Heap → Prop) (h : Heap) : Prop := g_world_Load_Samples m_slices_Clone_world_Sample_world_Sample_ l K h

/-- (*spillwayref02.Load).At -/
def g_spillwayref02_Load_At (l : Option Addr) (at_ : Int) (K : (Int × Int × Int × Unit) → Heap → Prop) (h : Heap) : Prop :=
  newC h [Value.int .i64 0, Value.int .i64 0, Value.int .i64 0] 68 fun b h1 => 
  newC h1 [Value.int .i64 0, Value.int .i64 0, Value.int .i64 0] 68 fun b2 h3 => 
  bindI 0 fun i => 
  loopM (σ := Int × Unit) (fun J5 s h6 =>
    (fun (i4 : Int) =>
      iteP l.isSome (
        derefP l fun b7 o => 
        ldL h6 b7 o fun t => 
        iteP (decide (i4 < (t.len : Int))) (
          derefP l fun b8 o9 => 
          ldL h6 b8 o9 fun t10 => 
          idxA t10.ptr t10.len i4 3 fun b11 o12 => 
          ldI h6 b11 o12 .i64 fun t13 => 
          iteP (decide (t13 ≤ at_)) (
            derefP l fun b14 o15 => 
            ldL h6 b14 o15 fun t16 => 
            idxA t16.ptr t16.len i4 3 fun b17 o18 => 
            ldI h6 b17 o18 .i64 fun t19 => ldI h6 b17 (o18 + 1) .i64 fun t20 => ldI h6 b17 (o18 + 2) .i64 fun t21 => 
            sts h6 b2 0 [Value.int .i64 t19, Value.int .i64 t20, Value.int .i64 t21] fun h22 => 
            bindI (IntKind.wrap .i64 (i4 + 1)) fun i23 => 
            J5 (i23, ()) h22) (
            bindI (IntKind.wrap .i64 (i4 + 1)) fun i24 => 
            J5 (i24, ()) h6)) (
          ldI h6 b2 0 .i64 fun t25 => ldI h6 b2 (0 + 1) .i64 fun t26 => ldI h6 b2 (0 + 2) .i64 fun t27 => 
          sts h6 b 0 [Value.int .i64 t25, Value.int .i64 t26, Value.int .i64 t27] fun h28 => 
          ldI h28 b 0 .i64 fun t29 => ldI h28 b (0 + 1) .i64 fun t30 => ldI h28 b (0 + 2) .i64 fun t31 => K (t29, t30, t31, ()) h28)) (
        ldI h6 b2 0 .i64 fun t32 => ldI h6 b2 (0 + 1) .i64 fun t33 => ldI h6 b2 (0 + 2) .i64 fun t34 => 
        sts h6 b 0 [Value.int .i64 t32, Value.int .i64 t33, Value.int .i64 t34] fun h35 => 
        ldI h35 b 0 .i64 fun t36 => ldI h35 b (0 + 1) .i64 fun t37 => ldI h35 b (0 + 2) .i64 fun t38 => K (t36, t37, t38, ()) h35)) s.1) (i, ()) h3

def m_spillwayref02_Load_At (l : Option Addr) (at_ : Int) (K : (Int × Int × Int × Unit) → Heap → Prop) (h : Heap) : Prop := g_spillwayref02_Load_At l at_ K h

/-- spillwaylaw02.WorldLoads -/
def g_spillwaylaw02_WorldLoads (f_spillwaylaw02_samples : Sl → (Sl → Heap → Prop) → Heap → Prop) (f_world_NewLoad : Sl → ((Option Addr) → Int → Heap → Prop) → Heap → Prop) (f_spillwayref02_NewLoad : Sl → ((Option Addr) → Int → Heap → Prop) → Heap → Prop) (f_spillwaylaw02_live : (Bool → Heap → Prop) → Heap → Prop) (f_world_Load_Fork : (Option Addr) → ((Option Addr) → Heap → Prop) → Heap → Prop) (f_world_Load_Add : (Option Addr) → Sl → (Int → Heap → Prop) → Heap → Prop) (f_spillwayref02_Load_Add : (Option Addr) → Sl → (Int → Heap → Prop) → Heap → Prop) (f_spillwaylaw02_same : Sl → Sl → (Bool → Heap → Prop) → Heap → Prop) (f_world_Load_Samples : (Option Addr) → (Sl → Heap → Prop) → Heap → Prop) (f_world_Load_At : (Option Addr) → Int → ((Int × Int × Int × Unit) → Heap → Prop) → Heap → Prop) (f_spillwayref02_Load_At : (Option Addr) → Int → ((Int × Int × Int × Unit) → Heap → Prop) → Heap → Prop) (a : Sl) (b : Sl) (times : Sl) (K : Bool → Heap → Prop) (h : Heap) : Prop :=
  f_spillwaylaw02_samples b (fun t h1 =>
    f_spillwaylaw02_samples a (fun t2 h3 =>
      f_world_NewLoad t2 (fun t4 t5 h6 =>
        bindI t5 fun e => 
        f_spillwayref02_NewLoad a (fun t7 t8 h9 =>
          bindI t8 fun f => 
          f_spillwaylaw02_live (fun t10 h11 =>
            iteP (!t10) (
              K false h11) (
              iteP (e != f) (
                K false h11) (
                iteP (t4.isNone != t7.isNone) (
                  K false h11) (
                  iteP (e != 0) (
                    K true h11) (
                    f_world_Load_Fork t4 (fun t12 h13 =>
                      f_world_Load_Add t4 t (fun t14 h15 =>
                        f_spillwayref02_Load_Add t7 b (fun t16 h17 =>
                          iteP (t14 != t16) (
                            K false h17) (
                            f_spillwaylaw02_same t b (fun t18 h19 =>
                              iteP (!t18) (
                                K false h19) (
                                derefP t7 fun b20 o => 
                                ldL h19 b20 o fun t21 => 
                                f_world_Load_Samples t4 (fun t22 h23 =>
                                  need (heldL h23 [(b20, o, Value.slice t21.ptr t21.len t21.cap)]) <|
                                  f_spillwaylaw02_same t22 t21 (fun t24 h25 =>
                                    iteP (!t24) (
                                      K false h25) (
                                      f_world_Load_Samples t12 (fun t26 h27 =>
                                        f_spillwaylaw02_same t26 a (fun t28 h29 =>
                                          iteP (!t28) (
                                            K false h29) (
                                            f_world_Load_Samples t4 (fun t30 h31 =>
                                              bindI 0 fun i => 
                                              loopM (σ := Int × Unit) (fun J33 s h34 =>
                                                (fun (i32 : Int) =>
                                                  iteP (decide (i32 < (t30.len : Int))) (
                                                    idxA t30.ptr t30.len i32 3 fun b35 o36 => 
                                                    st h34 b35 (o36 + 1) (Value.int .i64 (-77)) fun h37 => 
                                                    bindI (IntKind.wrap .i64 (i32 + 1)) fun i38 => 
                                                    J33 (i38, ()) h37) (
                                                    bindI 0 fun i39 => 
                                                    loopM (σ := Int × Unit) (fun J41 s42 h43 =>
                                                      (fun (i40 : Int) =>
                                                        iteP (decide (i40 < (times.len : Int))) (
                                                          idxA times.ptr times.len i40 1 fun b44 o45 => 
                                                          ldI h43 b44 o45 .i64 fun t46 => 
                                                          f_world_Load_At t4 t46 (fun t47 h48 =>
                                                            newC h48 [Value.int .i64 0, Value.int .i64 0, Value.int .i64 0] 66 fun b49 h50 => 
                                                            sts h50 b49 0 [Value.int .i64 t47.1, Value.int .i64 t47.2.1, Value.int .i64 t47.2.2.1] fun h51 => 
                                                            idxA times.ptr times.len i40 1 fun b52 o53 => 
                                                            ldI h51 b52 o53 .i64 fun t54 => 
                                                            f_spillwayref02_Load_At t7 t54 (fun t55 h56 =>
                                                              newC h56 [Value.int .i64 0, Value.int .i64 0, Value.int .i64 0] 68 fun b57 h58 => 
                                                              sts h58 b57 0 [Value.int .i64 t55.1, Value.int .i64 t55.2.1, Value.int .i64 t55.2.2.1] fun h59 => 
                                                              ldI h59 b49 0 .i64 fun t60 => 
                                                              ldI h59 b57 0 .i64 fun t61 => 
                                                              iteP (t60 != t61) (
                                                                K false h59) (
                                                                ldI h59 b49 (0 + 1) .i64 fun t62 => 
                                                                ldI h59 b57 (0 + 1) .i64 fun t63 => 
                                                                iteP (t62 != t63) (
                                                                  K false h59) (
                                                                  ldI h59 b49 (0 + 2) .i64 fun t64 => 
                                                                  ldI h59 b57 (0 + 2) .i64 fun t65 => 
                                                                  iteP (t64 != t65) (
                                                                    K false h59) (
                                                                    bindI (IntKind.wrap .i64 (i40 + 1)) fun i66 => 
                                                                    J41 (i66, ()) h59)))) h51) h43) (
                                                          derefP t7 fun b67 o68 => 
                                                          ldL h43 b67 o68 fun t69 => 
                                                          f_world_Load_Samples t4 (fun t70 h71 =>
                                                            need (heldL h71 [(b67, o68, Value.slice t69.ptr t69.len t69.cap)]) <|
                                                            f_spillwaylaw02_same t70 t69 (fun t72 h73 =>
                                                              bindB t72 fun t74 => 
                                                              K t74 h73) h71) h43)) s42.1) (i39, ()) h34)) s.1) (i, ()) h31) h29)) h27) h25)) h23) h19)) h17)) h15) h13) h11))))) h9) h6) h3) h1) h

def m_spillwaylaw02_WorldLoads (a : Sl) (b : Sl) (times : Sl) (K : Bool → Heap → Prop) (h : Heap) : Prop := g_spillwaylaw02_WorldLoads m_spillwaylaw02_samples m_world_NewLoad m_spillwayref02_NewLoad m_spillwaylaw02_live m_world_Load_Fork m_world_Load_Add m_spillwayref02_Load_Add m_spillwaylaw02_same m_world_Load_Samples m_world_Load_At m_spillwayref02_Load_At a b times K h

/-- (*world.Chance).Below -/
def g_world_Chance_Below (f_world_Chance_Next : (Option Addr) → (Int → Heap → Prop) → Heap → Prop) (c : Option Addr) (n : Int) (K : Int → Int → Heap → Prop) (h : Heap) : Prop :=
  bindI 0 fun t => 
  bindI 0 fun t1 => 
  bindB c.isNone fun t2 => 
  iteP t2 (
    bindI 0 fun t3 => 
    bindI 1 fun t4 => 
    K t3 t4 h) (
    bindB (decide (n < 1)) fun t5 => 
    iteP t5 (
      bindI 0 fun t6 => 
      bindI 2 fun t7 => 
      K t6 t7 h) (
      f_world_Chance_Next c (fun t8 h9 =>
        need ((IntKind.wrap .u64 n) ≠ 0) <| 
        bindI (IntKind.wrap .i64 (Int.tmod t8 (IntKind.wrap .u64 n))) fun t10 => 
        bindI 0 fun t11 => 
        K t10 t11 h9) h))

def m_world_Chance_Below (c : Option Addr) (n : Int) (K : Int → Int → Heap → Prop) (h : Heap) : Prop := g_world_Chance_Below m_world_Chance_Next c n K h

/-- (*world.Chance).Shuffle -/
def g_world_Chance_Shuffle (f_world_Chance_Below : (Option Addr) → Int → (Int → Int → Heap → Prop) → Heap → Prop) (c : Option Addr) (n : Int) (K : Sl → Int → Heap → Prop) (h : Heap) : Prop :=
  bindI 0 fun t => 
  bindB c.isNone fun t1 => 
  iteP t1 (
    bindI 1 fun t2 => 
    K ⟨none, 0, 0⟩ t2 h) (
    iteP (decide (n < 0)) (
      bindI 2 fun t3 => 
      K ⟨none, 0, 0⟩ t3 h) (
      bindB (decide (n > 4096)) fun t4 => 
      iteP t4 (
        bindI 2 fun t5 => 
        K ⟨none, 0, 0⟩ t5 h) (
        loopM (σ := Sl × Int × Unit) (fun J6 s h7 =>
          (fun (l : Sl) (s22 : Int) =>
            iteP (decide (s22 < n)) (
              bindI s22 fun i => 
              newC h7 [Value.int .i64 i] 3 fun b h8 => 
              rdS ⟨some ⟨b, 0, none⟩, 1, 1⟩ 1 h8 fun new => app 3 1 8 [Value.int .i64 0] l 1 new h8 fun t9 h10 => 
              J6 (t9, IntKind.wrap .i64 (s22 + 1), ()) h10) (
              bindI (IntKind.wrap .i64 (n - 1)) fun i11 => 
              loopM (σ := Int × Unit) (fun J13 s14 h15 =>
                (fun (i12 : Int) =>
                  iteP (decide (i12 ≥ 1)) (
                    f_world_Chance_Below c (IntKind.wrap .i64 (i12 + 1)) (fun t16 t17 h18 =>
                      bindI t16 fun k => 
                      bindI t17 fun _ => 
                      idxA l.ptr l.len k 1 fun b19 o => 
                      idxA l.ptr l.len i12 1 fun b20 o21 => 
                      ldI h18 b19 o .i64 fun t22 => 
                      ldI h18 b20 o21 .i64 fun t23 => 
                      idxA l.ptr l.len i12 1 fun b24 o25 => 
                      st h18 b24 o25 (Value.int .i64 t22) fun h26 => 
                      idxA l.ptr l.len k 1 fun b27 o28 => 
                      st h26 b27 o28 (Value.int .i64 t23) fun h29 => 
                      bindI (IntKind.wrap .i64 (i12 - 1)) fun i30 => 
                      J13 (i30, ()) h29) h15) (
                    bindI 0 fun t31 => 
                    K l t31 h15)) s14.1) (i11, ()) h7)) s.1 s.2.1) (⟨none, 0, 0⟩, 0, ()) h)))

def m_world_Chance_Shuffle (c : Option Addr) (n : Int) (K : Sl → Int → Heap → Prop) (h : Heap) : Prop := g_world_Chance_Shuffle m_world_Chance_Below c n K h

/-- (*spillwaymem.Book).TakeInts -/
def g_spillwaymem_Book_TakeInts (b : Option Addr) (l : Sl) (K : Heap → Prop) (h : Heap) : Prop :=
  derefP b fun b1 o => 
  ldL h b1 (o + 2) fun t => 
  newC h [Value.slice l.ptr l.len l.cap] 29 fun b2 h3 => 
  rdS ⟨some ⟨b2, 0, none⟩, 1, 1⟩ 1 h3 fun new => app 29 1 24 [Value.slice none 0 0] t 1 new h3 fun t4 h5 => 
  derefP b fun b6 o7 => 
  st h5 b6 (o7 + 2) (Value.slice t4.ptr t4.len t4.cap) fun h8 => 
  K h8

def m_spillwaymem_Book_TakeInts (b : Option Addr) (l : Sl) (K : Heap → Prop) (h : Heap) : Prop := g_spillwaymem_Book_TakeInts b l K h

/-- (*spillwaymem.Book).aloneBytes -/
def g_spillwaymem_Book_aloneBytes (b : Option Addr) (K : Bool → Heap → Prop) (h : Heap) : Prop :=
  bindI 0 fun i => 
  loopM (σ := Int × Unit) (fun J2 s h3 =>
    (fun (i1 : Int) =>
      derefP b fun b4 o => 
      ldL h3 b4 o fun t => 
      iteP (decide (i1 < (t.len : Int))) (
        bindI 0 fun k => 
        loopM (σ := Int × Unit) (fun J6 s7 h8 =>
          (fun (k5 : Int) =>
            derefP b fun b9 o10 => 
            ldL h8 b9 o10 fun t11 => 
            idxA t11.ptr t11.len i1 1 fun b12 o13 => 
            ldL h8 b12 o13 fun t14 => 
            iteP (decide (k5 < (t14.len : Int))) (
              derefP b fun b15 o16 => 
              ldL h8 b15 o16 fun t17 => 
              idxA t17.ptr t17.len i1 1 fun b18 o19 => 
              ldL h8 b18 o19 fun t20 => 
              need ((200 : Int) ≠ 0) <| 
              idxA t20.ptr t20.len k5 1 fun b21 o22 => 
              st h8 b21 o22 (Value.int .u8 (IntKind.wrap .u8 (IntKind.wrap .i64 ((48 : Int) + (Int.tmod i1 200))))) fun h23 => 
              bindI (IntKind.wrap .i64 (k5 + 1)) fun k24 => 
              J6 (k24, ()) h23) (
              bindI (IntKind.wrap .i64 (i1 + 1)) fun i25 => 
              J2 (i25, ()) h8)) s7.1) (k, ()) h3) (
        bindI 0 fun i26 => 
        loopM (σ := Sl × Int × Unit) (fun J28 s29 h30 =>
          (fun (all : Sl) (i27 : Int) =>
            derefP b fun b31 o32 => 
            ldL h30 b31 o32 fun t33 => 
            iteP (decide (i27 < (t33.len : Int))) (
              derefP b fun b34 o35 => 
              ldL h30 b34 o35 fun t36 => 
              idxA t36.ptr t36.len i27 1 fun b37 o38 => 
              ldL h30 b37 o38 fun t39 => 
              bindI 0 fun k40 => 
              loopM (σ := Sl × Int × Unit) (fun J42 s43 h44 =>
                (fun (g : Sl) (k41 : Int) =>
                  iteP (decide (k41 < 20)) (
                    need ((200 : Int) ≠ 0) <| 
                    newC h44 [Value.int .u8 (IntKind.wrap .u8 (IntKind.wrap .i64 ((48 : Int) + (Int.tmod i27 200))))] 5 fun b45 h46 => 
                    rdS ⟨some ⟨b45, 0, none⟩, 1, 1⟩ 1 h46 fun new => app 5 1 1 [Value.int .u8 0] g 1 new h46 fun t47 h48 => 
                    bindI (IntKind.wrap .i64 (k41 + 1)) fun k49 => 
                    J42 (t47, k49, ()) h48) (
                    newC h44 [Value.slice g.ptr g.len g.cap] 108 fun b50 h51 => 
                    rdS ⟨some ⟨b50, 0, none⟩, 1, 1⟩ 1 h51 fun new54 => app 108 1 24 [Value.slice none 0 0] all 1 new54 h51 fun t52 h53 => 
                    bindI (IntKind.wrap .i64 (i27 + 1)) fun i55 => 
                    J28 (t52, i55, ()) h53)) s43.1 s43.2.1) (t39, k40, ()) h30) (
              bindI 0 fun i56 => 
              loopM (σ := Int × Unit) (fun J58 s59 h60 =>
                (fun (i57 : Int) =>
                  iteP (decide (i57 < (all.len : Int))) (
                    bindI 0 fun k61 => 
                    loopM (σ := Int × Unit) (fun J63 s64 h65 =>
                      (fun (k62 : Int) =>
                        idxA all.ptr all.len i57 1 fun b66 o67 => 
                        ldL h65 b66 o67 fun t68 => 
                        iteP (decide (k62 < (t68.len : Int))) (
                          idxA all.ptr all.len i57 1 fun b69 o70 => 
                          ldL h65 b69 o70 fun t71 => 
                          idxA t71.ptr t71.len k62 1 fun b72 o73 => 
                          ldI h65 b72 o73 .u8 fun t74 => 
                          need ((200 : Int) ≠ 0) <| 
                          iteP (t74 != (IntKind.wrap .u8 (IntKind.wrap .i64 ((48 : Int) + (Int.tmod i57 200))))) (
                            K false h65) (
                            bindI (IntKind.wrap .i64 (k62 + 1)) fun k75 => 
                            J63 (k75, ()) h65)) (
                          bindI 0 fun k76 => 
                          loopM (σ := Int × Unit) (fun J78 s79 h80 =>
                            (fun (k77 : Int) =>
                              derefP b fun b81 o82 => 
                              ldL h80 b81 o82 fun t83 => 
                              idxA t83.ptr t83.len i57 1 fun b84 o85 => 
                              ldL h80 b84 o85 fun t86 => 
                              iteP (decide (k77 < (t86.len : Int))) (
                                derefP b fun b87 o88 => 
                                ldL h80 b87 o88 fun t89 => 
                                idxA t89.ptr t89.len i57 1 fun b90 o91 => 
                                ldL h80 b90 o91 fun t92 => 
                                idxA t92.ptr t92.len k77 1 fun b93 o94 => 
                                ldI h80 b93 o94 .u8 fun t95 => 
                                need ((200 : Int) ≠ 0) <| 
                                iteP (t95 != (IntKind.wrap .u8 (IntKind.wrap .i64 ((48 : Int) + (Int.tmod i57 200))))) (
                                  K false h80) (
                                  bindI (IntKind.wrap .i64 (k77 + 1)) fun k96 => 
                                  J78 (k96, ()) h80)) (
                                bindI (IntKind.wrap .i64 (i57 + 1)) fun i97 => 
                                J58 (i97, ()) h80)) s79.1) (k76, ()) h65)) s64.1) (k61, ()) h60) (
                    K true h60)) s59.1) (i56, ()) h30)) s29.1 s29.2.1) (⟨none, 0, 0⟩, i26, ()) h3)) s.1) (i, ()) h

def m_spillwaymem_Book_aloneBytes (b : Option Addr) (K : Bool → Heap → Prop) (h : Heap) : Prop := g_spillwaymem_Book_aloneBytes b K h

/-- spillwaymem.text -/
def g_spillwaymem_text (i : Int) (K : ByteArray → Heap → Prop) (h : Heap) : Prop :=
  need ((26 : Int) ≠ 0) <| 
  need ((26 : Int) ≠ 0) <| 
  need ((26 : Int) ≠ 0) <| 
  need ((676 : Int) ≠ 0) <| 
  need ((26 : Int) ≠ 0) <| 
  newC h [Value.int .u8 (IntKind.wrap .u8 (IntKind.wrap .i64 ((97 : Int) + (Int.tmod i 26)))), Value.int .u8 (IntKind.wrap .u8 (IntKind.wrap .i64 ((97 : Int) + (Int.tmod (IntKind.wrap .i64 (Int.tdiv i 26)) 26)))), Value.int .u8 (IntKind.wrap .u8 (IntKind.wrap .i64 ((97 : Int) + (Int.tmod (IntKind.wrap .i64 (Int.tdiv i 676)) 26))))] 5 fun b h1 => 
  b2s ⟨some ⟨b, 0, none⟩, 3, 3⟩ h1 fun t => 
  catS (ByteArray.mk #[109, 97, 114, 107, 32]) t fun s => 
  K s h1

def m_spillwaymem_text (i : Int) (K : ByteArray → Heap → Prop) (h : Heap) : Prop := g_spillwaymem_text i K h

/-- (*spillwaymem.Book).aloneTexts -/
def g_spillwaymem_Book_aloneTexts (f_spillwaymem_text : Int → (ByteArray → Heap → Prop) → Heap → Prop) (b : Option Addr) (K : Bool → Heap → Prop) (h : Heap) : Prop :=
  bindI 0 fun i => 
  loopM (σ := Int × Unit) (fun J2 s h3 =>
    (fun (i1 : Int) =>
      derefP b fun b4 o => 
      ldL h3 b4 (o + 1) fun t => 
      iteP (decide (i1 < (t.len : Int))) (
        bindI 0 fun k => 
        loopM (σ := Int × Unit) (fun J6 s7 h8 =>
          (fun (k5 : Int) =>
            derefP b fun b9 o10 => 
            ldL h8 b9 (o10 + 1) fun t11 => 
            idxA t11.ptr t11.len i1 1 fun b12 o13 => 
            ldL h8 b12 o13 fun t14 => 
            iteP (decide (k5 < (t14.len : Int))) (
              derefP b fun b15 o16 => 
              ldL h8 b15 (o16 + 1) fun t17 => 
              idxA t17.ptr t17.len i1 1 fun b18 o19 => 
              ldL h8 b18 o19 fun t20 => 
              f_spillwaymem_text i1 (fun t21 h22 =>
                need (heldL h22 [(b18, o19, Value.slice t20.ptr t20.len t20.cap)]) <|
                need (heldL h22 [(b15, o16 + 1, Value.slice t17.ptr t17.len t17.cap)]) <|
                idxA t20.ptr t20.len k5 1 fun b23 o24 => 
                st h22 b23 o24 (Value.string t21) fun h25 => 
                bindI (IntKind.wrap .i64 (k5 + 1)) fun k26 => 
                J6 (k26, ()) h25) h8) (
              bindI (IntKind.wrap .i64 (i1 + 1)) fun i27 => 
              J2 (i27, ()) h8)) s7.1) (k, ()) h3) (
        bindI 0 fun i28 => 
        loopM (σ := Sl × Int × Unit) (fun J30 s31 h32 =>
          (fun (all : Sl) (i29 : Int) =>
            derefP b fun b33 o34 => 
            ldL h32 b33 (o34 + 1) fun t35 => 
            iteP (decide (i29 < (t35.len : Int))) (
              derefP b fun b36 o37 => 
              ldL h32 b36 (o37 + 1) fun t38 => 
              idxA t38.ptr t38.len i29 1 fun b39 o40 => 
              ldL h32 b39 o40 fun t41 => 
              bindI 0 fun k42 => 
              loopM (σ := Sl × Int × Unit) (fun J44 s45 h46 =>
                (fun (g : Sl) (k43 : Int) =>
                  iteP (decide (k43 < 20)) (
                    f_spillwaymem_text i29 (fun t47 h48 =>
                      newC h48 [Value.string t47] 9 fun b49 h50 => 
                      rdS ⟨some ⟨b49, 0, none⟩, 1, 1⟩ 1 h50 fun new => app 9 1 16 [Value.string (ByteArray.mk #[])] g 1 new h50 fun t51 h52 => 
                      bindI (IntKind.wrap .i64 (k43 + 1)) fun k53 => 
                      J44 (t51, k53, ()) h52) h46) (
                    newC h46 [Value.slice g.ptr g.len g.cap] 109 fun b54 h55 => 
                    rdS ⟨some ⟨b54, 0, none⟩, 1, 1⟩ 1 h55 fun new58 => app 109 1 24 [Value.slice none 0 0] all 1 new58 h55 fun t56 h57 => 
                    bindI (IntKind.wrap .i64 (i29 + 1)) fun i59 => 
                    J30 (t56, i59, ()) h57)) s45.1 s45.2.1) (t41, k42, ()) h32) (
              bindI 0 fun i60 => 
              loopM (σ := Int × Unit) (fun J62 s63 h64 =>
                (fun (i61 : Int) =>
                  iteP (decide (i61 < (all.len : Int))) (
                    bindI 0 fun k65 => 
                    loopM (σ := Int × Unit) (fun J67 s68 h69 =>
                      (fun (k66 : Int) =>
                        idxA all.ptr all.len i61 1 fun b70 o71 => 
                        ldL h69 b70 o71 fun t72 => 
                        iteP (decide (k66 < (t72.len : Int))) (
                          idxA all.ptr all.len i61 1 fun b73 o74 => 
                          ldL h69 b73 o74 fun t75 => 
                          idxA t75.ptr t75.len k66 1 fun b76 o77 => 
                          ldS h69 b76 o77 fun t78 => 
                          qcall (ρ := ByteArray × Unit) (fun K h => f_spillwaymem_text i61 (fun q h => K (q, ()) h) h) h69 fun r => 
                          iteP (!(strEq t78 r.1)) (
                            K false h69) (
                            bindI (IntKind.wrap .i64 (k66 + 1)) fun k80 => 
                            J67 (k80, ()) h69)) (
                          bindI 0 fun k81 => 
                          loopM (σ := Int × Unit) (fun J83 s84 h85 =>
                            (fun (k82 : Int) =>
                              derefP b fun b86 o87 => 
                              ldL h85 b86 (o87 + 1) fun t88 => 
                              idxA t88.ptr t88.len i61 1 fun b89 o90 => 
                              ldL h85 b89 o90 fun t91 => 
                              iteP (decide (k82 < (t91.len : Int))) (
                                derefP b fun b92 o93 => 
                                ldL h85 b92 (o93 + 1) fun t94 => 
                                idxA t94.ptr t94.len i61 1 fun b95 o96 => 
                                ldL h85 b95 o96 fun t97 => 
                                idxA t97.ptr t97.len k82 1 fun b98 o99 => 
                                ldS h85 b98 o99 fun t100 => 
                                qcall (ρ := ByteArray × Unit) (fun K h => f_spillwaymem_text i61 (fun q102 h => K (q102, ()) h) h) h85 fun r103 => 
                                iteP (!(strEq t100 r103.1)) (
                                  K false h85) (
                                  bindI (IntKind.wrap .i64 (k82 + 1)) fun k104 => 
                                  J83 (k104, ()) h85)) (
                                bindI (IntKind.wrap .i64 (i61 + 1)) fun i105 => 
                                J62 (i105, ()) h85)) s84.1) (k81, ()) h69)) s68.1) (k65, ()) h64) (
                    K true h64)) s63.1) (i60, ()) h32)) s31.1 s31.2.1) (⟨none, 0, 0⟩, i28, ()) h3)) s.1) (i, ()) h

def m_spillwaymem_Book_aloneTexts (b : Option Addr) (K : Bool → Heap → Prop) (h : Heap) : Prop := g_spillwaymem_Book_aloneTexts m_spillwaymem_text b K h

/-- (*spillwaymem.Book).aloneInts -/
def g_spillwaymem_Book_aloneInts (b : Option Addr) (K : Bool → Heap → Prop) (h : Heap) : Prop :=
  bindI 0 fun i => 
  loopM (σ := Int × Unit) (fun J2 s h3 =>
    (fun (i1 : Int) =>
      derefP b fun b4 o => 
      ldL h3 b4 (o + 2) fun t => 
      iteP (decide (i1 < (t.len : Int))) (
        bindI 0 fun k => 
        loopM (σ := Int × Unit) (fun J6 s7 h8 =>
          (fun (k5 : Int) =>
            derefP b fun b9 o10 => 
            ldL h8 b9 (o10 + 2) fun t11 => 
            idxA t11.ptr t11.len i1 1 fun b12 o13 => 
            ldL h8 b12 o13 fun t14 => 
            iteP (decide (k5 < (t14.len : Int))) (
              derefP b fun b15 o16 => 
              ldL h8 b15 (o16 + 2) fun t17 => 
              idxA t17.ptr t17.len i1 1 fun b18 o19 => 
              ldL h8 b18 o19 fun t20 => 
              idxA t20.ptr t20.len k5 1 fun b21 o22 => 
              st h8 b21 o22 (Value.int .i64 (IntKind.wrap .i64 ((-9000 : Int) - i1))) fun h23 => 
              bindI (IntKind.wrap .i64 (k5 + 1)) fun k24 => 
              J6 (k24, ()) h23) (
              bindI (IntKind.wrap .i64 (i1 + 1)) fun i25 => 
              J2 (i25, ()) h8)) s7.1) (k, ()) h3) (
        bindI 0 fun i26 => 
        loopM (σ := Sl × Int × Unit) (fun J28 s29 h30 =>
          (fun (all : Sl) (i27 : Int) =>
            derefP b fun b31 o32 => 
            ldL h30 b31 (o32 + 2) fun t33 => 
            iteP (decide (i27 < (t33.len : Int))) (
              derefP b fun b34 o35 => 
              ldL h30 b34 (o35 + 2) fun t36 => 
              idxA t36.ptr t36.len i27 1 fun b37 o38 => 
              ldL h30 b37 o38 fun t39 => 
              bindI 0 fun k40 => 
              loopM (σ := Sl × Int × Unit) (fun J42 s43 h44 =>
                (fun (g : Sl) (k41 : Int) =>
                  iteP (decide (k41 < 20)) (
                    newC h44 [Value.int .i64 (IntKind.wrap .i64 ((-9000 : Int) - i27))] 3 fun b45 h46 => 
                    rdS ⟨some ⟨b45, 0, none⟩, 1, 1⟩ 1 h46 fun new => app 3 1 8 [Value.int .i64 0] g 1 new h46 fun t47 h48 => 
                    bindI (IntKind.wrap .i64 (k41 + 1)) fun k49 => 
                    J42 (t47, k49, ()) h48) (
                    newC h44 [Value.slice g.ptr g.len g.cap] 29 fun b50 h51 => 
                    rdS ⟨some ⟨b50, 0, none⟩, 1, 1⟩ 1 h51 fun new54 => app 29 1 24 [Value.slice none 0 0] all 1 new54 h51 fun t52 h53 => 
                    bindI (IntKind.wrap .i64 (i27 + 1)) fun i55 => 
                    J28 (t52, i55, ()) h53)) s43.1 s43.2.1) (t39, k40, ()) h30) (
              bindI 0 fun i56 => 
              loopM (σ := Int × Unit) (fun J58 s59 h60 =>
                (fun (i57 : Int) =>
                  iteP (decide (i57 < (all.len : Int))) (
                    bindI 0 fun k61 => 
                    loopM (σ := Int × Unit) (fun J63 s64 h65 =>
                      (fun (k62 : Int) =>
                        idxA all.ptr all.len i57 1 fun b66 o67 => 
                        ldL h65 b66 o67 fun t68 => 
                        iteP (decide (k62 < (t68.len : Int))) (
                          idxA all.ptr all.len i57 1 fun b69 o70 => 
                          ldL h65 b69 o70 fun t71 => 
                          idxA t71.ptr t71.len k62 1 fun b72 o73 => 
                          ldI h65 b72 o73 .i64 fun t74 => 
                          iteP (t74 != (IntKind.wrap .i64 ((-9000 : Int) - i57))) (
                            K false h65) (
                            bindI (IntKind.wrap .i64 (k62 + 1)) fun k75 => 
                            J63 (k75, ()) h65)) (
                          bindI 0 fun k76 => 
                          loopM (σ := Int × Unit) (fun J78 s79 h80 =>
                            (fun (k77 : Int) =>
                              derefP b fun b81 o82 => 
                              ldL h80 b81 (o82 + 2) fun t83 => 
                              idxA t83.ptr t83.len i57 1 fun b84 o85 => 
                              ldL h80 b84 o85 fun t86 => 
                              iteP (decide (k77 < (t86.len : Int))) (
                                derefP b fun b87 o88 => 
                                ldL h80 b87 (o88 + 2) fun t89 => 
                                idxA t89.ptr t89.len i57 1 fun b90 o91 => 
                                ldL h80 b90 o91 fun t92 => 
                                idxA t92.ptr t92.len k77 1 fun b93 o94 => 
                                ldI h80 b93 o94 .i64 fun t95 => 
                                iteP (t95 != (IntKind.wrap .i64 ((-9000 : Int) - i57))) (
                                  K false h80) (
                                  bindI (IntKind.wrap .i64 (k77 + 1)) fun k96 => 
                                  J78 (k96, ()) h80)) (
                                bindI (IntKind.wrap .i64 (i57 + 1)) fun i97 => 
                                J58 (i97, ()) h80)) s79.1) (k76, ()) h65)) s64.1) (k61, ()) h60) (
                    K true h60)) s59.1) (i56, ()) h30)) s29.1 s29.2.1) (⟨none, 0, 0⟩, i26, ()) h3)) s.1) (i, ()) h

def m_spillwaymem_Book_aloneInts (b : Option Addr) (K : Bool → Heap → Prop) (h : Heap) : Prop := g_spillwaymem_Book_aloneInts b K h

/-- (*spillwaymem.Book).aloneCounts -/
def g_spillwaymem_Book_aloneCounts (b : Option Addr) (K : Bool → Heap → Prop) (h : Heap) : Prop :=
  bindI 0 fun i => 
  loopM (σ := Int × Unit) (fun J2 s h3 =>
    (fun (i1 : Int) =>
      derefP b fun b4 o => 
      ldL h3 b4 (o + 3) fun t => 
      iteP (decide (i1 < (t.len : Int))) (
        bindI 0 fun k => 
        loopM (σ := Int × Unit) (fun J6 s7 h8 =>
          (fun (k5 : Int) =>
            derefP b fun b9 o10 => 
            ldL h8 b9 (o10 + 3) fun t11 => 
            idxA t11.ptr t11.len i1 1 fun b12 o13 => 
            ldL h8 b12 o13 fun t14 => 
            iteP (decide (k5 < (t14.len : Int))) (
              derefP b fun b15 o16 => 
              ldL h8 b15 (o16 + 3) fun t17 => 
              idxA t17.ptr t17.len i1 1 fun b18 o19 => 
              ldL h8 b18 o19 fun t20 => 
              idxA t20.ptr t20.len k5 6 fun b21 o22 => 
              sts h8 b21 o22 [Value.int .i64 (IntKind.wrap .i64 ((-9000 : Int) - i1)), Value.int .i64 0, Value.int .i64 0, Value.int .i64 0, Value.int .i64 0, Value.int .i64 0] fun h23 => 
              bindI (IntKind.wrap .i64 (k5 + 1)) fun k24 => 
              J6 (k24, ()) h23) (
              bindI (IntKind.wrap .i64 (i1 + 1)) fun i25 => 
              J2 (i25, ()) h8)) s7.1) (k, ()) h3) (
        bindI 0 fun i26 => 
        loopM (σ := Sl × Int × Unit) (fun J28 s29 h30 =>
          (fun (all : Sl) (i27 : Int) =>
            derefP b fun b31 o32 => 
            ldL h30 b31 (o32 + 3) fun t33 => 
            iteP (decide (i27 < (t33.len : Int))) (
              derefP b fun b34 o35 => 
              ldL h30 b34 (o35 + 3) fun t36 => 
              idxA t36.ptr t36.len i27 1 fun b37 o38 => 
              ldL h30 b37 o38 fun t39 => 
              bindI 0 fun k40 => 
              loopM (σ := Sl × Int × Unit) (fun J42 s43 h44 =>
                (fun (g : Sl) (k41 : Int) =>
                  iteP (decide (k41 < 20)) (
                    newC h44 [Value.int .i64 (IntKind.wrap .i64 ((-9000 : Int) - i27)), Value.int .i64 0, Value.int .i64 0, Value.int .i64 0, Value.int .i64 0, Value.int .i64 0] 113 fun b45 h46 => 
                    rdS ⟨some ⟨b45, 0, none⟩, 1, 1⟩ 6 h46 fun new => app 113 6 48 [Value.int .i64 0, Value.int .i64 0, Value.int .i64 0, Value.int .i64 0, Value.int .i64 0, Value.int .i64 0] g 1 new h46 fun t47 h48 => 
                    bindI (IntKind.wrap .i64 (k41 + 1)) fun k49 => 
                    J42 (t47, k49, ()) h48) (
                    newC h44 [Value.slice g.ptr g.len g.cap] 111 fun b50 h51 => 
                    rdS ⟨some ⟨b50, 0, none⟩, 1, 1⟩ 1 h51 fun new54 => app 111 1 24 [Value.slice none 0 0] all 1 new54 h51 fun t52 h53 => 
                    bindI (IntKind.wrap .i64 (i27 + 1)) fun i55 => 
                    J28 (t52, i55, ()) h53)) s43.1 s43.2.1) (t39, k40, ()) h30) (
              bindI 0 fun i56 => 
              loopM (σ := Int × Unit) (fun J58 s59 h60 =>
                (fun (i57 : Int) =>
                  iteP (decide (i57 < (all.len : Int))) (
                    bindI 0 fun k61 => 
                    loopM (σ := Int × Unit) (fun J63 s64 h65 =>
                      (fun (k62 : Int) =>
                        idxA all.ptr all.len i57 1 fun b66 o67 => 
                        ldL h65 b66 o67 fun t68 => 
                        iteP (decide (k62 < (t68.len : Int))) (
                          idxA all.ptr all.len i57 1 fun b69 o70 => 
                          ldL h65 b69 o70 fun t71 => 
                          idxA t71.ptr t71.len k62 6 fun b72 o73 => 
                          ldI h65 b72 o73 .i64 fun t74 => ldI h65 b72 (o73 + 1) .i64 fun t75 => ldI h65 b72 (o73 + 2) .i64 fun t76 => ldI h65 b72 (o73 + 3) .i64 fun t77 => ldI h65 b72 (o73 + 4) .i64 fun t78 => ldI h65 b72 (o73 + 5) .i64 fun t79 => 
                          iteP (!(bif t74 == (IntKind.wrap .i64 ((-9000 : Int) - i57)) then (bif t75 == 0 then (bif t76 == 0 then (bif t77 == 0 then (bif t78 == 0 then (bif t79 == 0 then true else false) else false) else false) else false) else false) else false)) (
                            K false h65) (
                            bindI (IntKind.wrap .i64 (k62 + 1)) fun k80 => 
                            J63 (k80, ()) h65)) (
                          bindI 0 fun k81 => 
                          loopM (σ := Int × Unit) (fun J83 s84 h85 =>
                            (fun (k82 : Int) =>
                              derefP b fun b86 o87 => 
                              ldL h85 b86 (o87 + 3) fun t88 => 
                              idxA t88.ptr t88.len i57 1 fun b89 o90 => 
                              ldL h85 b89 o90 fun t91 => 
                              iteP (decide (k82 < (t91.len : Int))) (
                                derefP b fun b92 o93 => 
                                ldL h85 b92 (o93 + 3) fun t94 => 
                                idxA t94.ptr t94.len i57 1 fun b95 o96 => 
                                ldL h85 b95 o96 fun t97 => 
                                idxA t97.ptr t97.len k82 6 fun b98 o99 => 
                                ldI h85 b98 o99 .i64 fun t100 => ldI h85 b98 (o99 + 1) .i64 fun t101 => ldI h85 b98 (o99 + 2) .i64 fun t102 => ldI h85 b98 (o99 + 3) .i64 fun t103 => ldI h85 b98 (o99 + 4) .i64 fun t104 => ldI h85 b98 (o99 + 5) .i64 fun t105 => 
                                iteP (!(bif t100 == (IntKind.wrap .i64 ((-9000 : Int) - i57)) then (bif t101 == 0 then (bif t102 == 0 then (bif t103 == 0 then (bif t104 == 0 then (bif t105 == 0 then true else false) else false) else false) else false) else false) else false)) (
                                  K false h85) (
                                  bindI (IntKind.wrap .i64 (k82 + 1)) fun k106 => 
                                  J83 (k106, ()) h85)) (
                                bindI (IntKind.wrap .i64 (i57 + 1)) fun i107 => 
                                J58 (i107, ()) h85)) s84.1) (k81, ()) h65)) s64.1) (k61, ()) h60) (
                    K true h60)) s59.1) (i56, ()) h30)) s29.1 s29.2.1) (⟨none, 0, 0⟩, i26, ()) h3)) s.1) (i, ()) h

def m_spillwaymem_Book_aloneCounts (b : Option Addr) (K : Bool → Heap → Prop) (h : Heap) : Prop := g_spillwaymem_Book_aloneCounts b K h

/-- (*spillwaymem.Book).aloneItems -/
def g_spillwaymem_Book_aloneItems (b : Option Addr) (K : Bool → Heap → Prop) (h : Heap) : Prop :=
  bindI 0 fun i => 
  loopM (σ := Int × Unit) (fun J2 s h3 =>
    (fun (i1 : Int) =>
      derefP b fun b4 o => 
      ldL h3 b4 (o + 4) fun t => 
      iteP (decide (i1 < (t.len : Int))) (
        bindI 0 fun k => 
        loopM (σ := Int × Unit) (fun J6 s7 h8 =>
          (fun (k5 : Int) =>
            derefP b fun b9 o10 => 
            ldL h8 b9 (o10 + 4) fun t11 => 
            idxA t11.ptr t11.len i1 1 fun b12 o13 => 
            ldL h8 b12 o13 fun t14 => 
            iteP (decide (k5 < (t14.len : Int))) (
              derefP b fun b15 o16 => 
              ldL h8 b15 (o16 + 4) fun t17 => 
              idxA t17.ptr t17.len i1 1 fun b18 o19 => 
              ldL h8 b18 o19 fun t20 => 
              idxA t20.ptr t20.len k5 2 fun b21 o22 => 
              sts h8 b21 o22 [Value.string (ByteArray.mk #[]), Value.int .i64 (IntKind.wrap .i64 ((-9000 : Int) - i1))] fun h23 => 
              bindI (IntKind.wrap .i64 (k5 + 1)) fun k24 => 
              J6 (k24, ()) h23) (
              bindI (IntKind.wrap .i64 (i1 + 1)) fun i25 => 
              J2 (i25, ()) h8)) s7.1) (k, ()) h3) (
        bindI 0 fun i26 => 
        loopM (σ := Sl × Int × Unit) (fun J28 s29 h30 =>
          (fun (all : Sl) (i27 : Int) =>
            derefP b fun b31 o32 => 
            ldL h30 b31 (o32 + 4) fun t33 => 
            iteP (decide (i27 < (t33.len : Int))) (
              derefP b fun b34 o35 => 
              ldL h30 b34 (o35 + 4) fun t36 => 
              idxA t36.ptr t36.len i27 1 fun b37 o38 => 
              ldL h30 b37 o38 fun t39 => 
              bindI 0 fun k40 => 
              loopM (σ := Sl × Int × Unit) (fun J42 s43 h44 =>
                (fun (g : Sl) (k41 : Int) =>
                  iteP (decide (k41 < 20)) (
                    newC h44 [Value.string (ByteArray.mk #[]), Value.int .i64 (IntKind.wrap .i64 ((-9000 : Int) - i27))] 116 fun b45 h46 => 
                    rdS ⟨some ⟨b45, 0, none⟩, 1, 1⟩ 2 h46 fun new => app 116 2 24 [Value.string (ByteArray.mk #[]), Value.int .i64 0] g 1 new h46 fun t47 h48 => 
                    bindI (IntKind.wrap .i64 (k41 + 1)) fun k49 => 
                    J42 (t47, k49, ()) h48) (
                    newC h44 [Value.slice g.ptr g.len g.cap] 114 fun b50 h51 => 
                    rdS ⟨some ⟨b50, 0, none⟩, 1, 1⟩ 1 h51 fun new54 => app 114 1 24 [Value.slice none 0 0] all 1 new54 h51 fun t52 h53 => 
                    bindI (IntKind.wrap .i64 (i27 + 1)) fun i55 => 
                    J28 (t52, i55, ()) h53)) s43.1 s43.2.1) (t39, k40, ()) h30) (
              bindI 0 fun i56 => 
              loopM (σ := Int × Unit) (fun J58 s59 h60 =>
                (fun (i57 : Int) =>
                  iteP (decide (i57 < (all.len : Int))) (
                    bindI 0 fun k61 => 
                    loopM (σ := Int × Unit) (fun J63 s64 h65 =>
                      (fun (k62 : Int) =>
                        idxA all.ptr all.len i57 1 fun b66 o67 => 
                        ldL h65 b66 o67 fun t68 => 
                        iteP (decide (k62 < (t68.len : Int))) (
                          idxA all.ptr all.len i57 1 fun b69 o70 => 
                          ldL h65 b69 o70 fun t71 => 
                          idxA t71.ptr t71.len k62 2 fun b72 o73 => 
                          ldS h65 b72 o73 fun t74 => ldI h65 b72 (o73 + 1) .i64 fun t75 => 
                          iteP (!(bif strEq t74 (ByteArray.mk #[]) then (bif t75 == (IntKind.wrap .i64 ((-9000 : Int) - i57)) then true else false) else false)) (
                            K false h65) (
                            bindI (IntKind.wrap .i64 (k62 + 1)) fun k76 => 
                            J63 (k76, ()) h65)) (
                          bindI 0 fun k77 => 
                          loopM (σ := Int × Unit) (fun J79 s80 h81 =>
                            (fun (k78 : Int) =>
                              derefP b fun b82 o83 => 
                              ldL h81 b82 (o83 + 4) fun t84 => 
                              idxA t84.ptr t84.len i57 1 fun b85 o86 => 
                              ldL h81 b85 o86 fun t87 => 
                              iteP (decide (k78 < (t87.len : Int))) (
                                derefP b fun b88 o89 => 
                                ldL h81 b88 (o89 + 4) fun t90 => 
                                idxA t90.ptr t90.len i57 1 fun b91 o92 => 
                                ldL h81 b91 o92 fun t93 => 
                                idxA t93.ptr t93.len k78 2 fun b94 o95 => 
                                ldS h81 b94 o95 fun t96 => ldI h81 b94 (o95 + 1) .i64 fun t97 => 
                                iteP (!(bif strEq t96 (ByteArray.mk #[]) then (bif t97 == (IntKind.wrap .i64 ((-9000 : Int) - i57)) then true else false) else false)) (
                                  K false h81) (
                                  bindI (IntKind.wrap .i64 (k78 + 1)) fun k98 => 
                                  J79 (k98, ()) h81)) (
                                bindI (IntKind.wrap .i64 (i57 + 1)) fun i99 => 
                                J58 (i99, ()) h81)) s80.1) (k77, ()) h65)) s64.1) (k61, ()) h60) (
                    K true h60)) s59.1) (i56, ()) h30)) s29.1 s29.2.1) (⟨none, 0, 0⟩, i26, ()) h3)) s.1) (i, ()) h

def m_spillwaymem_Book_aloneItems (b : Option Addr) (K : Bool → Heap → Prop) (h : Heap) : Prop := g_spillwaymem_Book_aloneItems b K h

/-- (*spillwaymem.Book).aloneFlows -/
def g_spillwaymem_Book_aloneFlows (b : Option Addr) (K : Bool → Heap → Prop) (h : Heap) : Prop :=
  bindI 0 fun i => 
  loopM (σ := Int × Unit) (fun J2 s h3 =>
    (fun (i1 : Int) =>
      derefP b fun b4 o => 
      ldL h3 b4 (o + 5) fun t => 
      iteP (decide (i1 < (t.len : Int))) (
        bindI 0 fun k => 
        loopM (σ := Int × Unit) (fun J6 s7 h8 =>
          (fun (k5 : Int) =>
            derefP b fun b9 o10 => 
            ldL h8 b9 (o10 + 5) fun t11 => 
            idxA t11.ptr t11.len i1 1 fun b12 o13 => 
            ldL h8 b12 o13 fun t14 => 
            iteP (decide (k5 < (t14.len : Int))) (
              derefP b fun b15 o16 => 
              ldL h8 b15 (o16 + 5) fun t17 => 
              idxA t17.ptr t17.len i1 1 fun b18 o19 => 
              ldL h8 b18 o19 fun t20 => 
              idxA t20.ptr t20.len k5 12 fun b21 o22 => 
              sts h8 b21 o22 [Value.string (ByteArray.mk #[]), Value.string (ByteArray.mk #[]), Value.bool false, Value.int .i64 (IntKind.wrap .i64 ((-9000 : Int) - i1)), Value.int .u8 0, Value.string (ByteArray.mk #[]), Value.int .u8 0, Value.int .i64 0, Value.int .i64 0, Value.bool false, Value.int .i64 0, Value.bool false] fun h23 => 
              bindI (IntKind.wrap .i64 (k5 + 1)) fun k24 => 
              J6 (k24, ()) h23) (
              bindI (IntKind.wrap .i64 (i1 + 1)) fun i25 => 
              J2 (i25, ()) h8)) s7.1) (k, ()) h3) (
        bindI 0 fun i26 => 
        loopM (σ := Sl × Int × Unit) (fun J28 s29 h30 =>
          (fun (all : Sl) (i27 : Int) =>
            derefP b fun b31 o32 => 
            ldL h30 b31 (o32 + 5) fun t33 => 
            iteP (decide (i27 < (t33.len : Int))) (
              derefP b fun b34 o35 => 
              ldL h30 b34 (o35 + 5) fun t36 => 
              idxA t36.ptr t36.len i27 1 fun b37 o38 => 
              ldL h30 b37 o38 fun t39 => 
              bindI 0 fun k40 => 
              loopM (σ := Sl × Int × Unit) (fun J42 s43 h44 =>
                (fun (g : Sl) (k41 : Int) =>
                  iteP (decide (k41 < 20)) (
                    newC h44 [Value.string (ByteArray.mk #[]), Value.string (ByteArray.mk #[]), Value.bool false, Value.int .i64 (IntKind.wrap .i64 ((-9000 : Int) - i27)), Value.int .u8 0, Value.string (ByteArray.mk #[]), Value.int .u8 0, Value.int .i64 0, Value.int .i64 0, Value.bool false, Value.int .i64 0, Value.bool false] 121 fun b45 h46 => 
                    rdS ⟨some ⟨b45, 0, none⟩, 1, 1⟩ 12 h46 fun new => app 121 12 120 [Value.string (ByteArray.mk #[]), Value.string (ByteArray.mk #[]), Value.bool false, Value.int .i64 0, Value.int .u8 0, Value.string (ByteArray.mk #[]), Value.int .u8 0, Value.int .i64 0, Value.int .i64 0, Value.bool false, Value.int .i64 0, Value.bool false] g 1 new h46 fun t47 h48 => 
                    bindI (IntKind.wrap .i64 (k41 + 1)) fun k49 => 
                    J42 (t47, k49, ()) h48) (
                    newC h44 [Value.slice g.ptr g.len g.cap] 117 fun b50 h51 => 
                    rdS ⟨some ⟨b50, 0, none⟩, 1, 1⟩ 1 h51 fun new54 => app 117 1 24 [Value.slice none 0 0] all 1 new54 h51 fun t52 h53 => 
                    bindI (IntKind.wrap .i64 (i27 + 1)) fun i55 => 
                    J28 (t52, i55, ()) h53)) s43.1 s43.2.1) (t39, k40, ()) h30) (
              bindI 0 fun i56 => 
              loopM (σ := Int × Unit) (fun J58 s59 h60 =>
                (fun (i57 : Int) =>
                  iteP (decide (i57 < (all.len : Int))) (
                    bindI 0 fun k61 => 
                    loopM (σ := Int × Unit) (fun J63 s64 h65 =>
                      (fun (k62 : Int) =>
                        idxA all.ptr all.len i57 1 fun b66 o67 => 
                        ldL h65 b66 o67 fun t68 => 
                        iteP (decide (k62 < (t68.len : Int))) (
                          idxA all.ptr all.len i57 1 fun b69 o70 => 
                          ldL h65 b69 o70 fun t71 => 
                          idxA t71.ptr t71.len k62 12 fun b72 o73 => 
                          ldS h65 b72 o73 fun t74 => ldS h65 b72 (o73 + 1) fun t75 => ldB h65 b72 (o73 + 2) fun t76 => ldI h65 b72 (o73 + 3) .i64 fun t77 => ldI h65 b72 (o73 + 4) .u8 fun t78 => ldS h65 b72 (o73 + 5) fun t79 => ldI h65 b72 (o73 + 6) .u8 fun t80 => ldI h65 b72 (o73 + 7) .i64 fun t81 => ldI h65 b72 (o73 + 8) .i64 fun t82 => ldB h65 b72 (o73 + 9) fun t83 => ldI h65 b72 (o73 + 10) .i64 fun t84 => ldB h65 b72 (o73 + 11) fun t85 => 
                          iteP (!(bif strEq t74 (ByteArray.mk #[]) then (bif strEq t75 (ByteArray.mk #[]) then (bif t76 == false then (bif t77 == (IntKind.wrap .i64 ((-9000 : Int) - i57)) then (bif t78 == 0 then (bif strEq t79 (ByteArray.mk #[]) then (bif t80 == 0 then (bif t81 == 0 then (bif t82 == 0 then (bif t83 == false then (bif t84 == 0 then (bif t85 == false then true else false) else false) else false) else false) else false) else false) else false) else false) else false) else false) else false) else false)) (
                            K false h65) (
                            bindI (IntKind.wrap .i64 (k62 + 1)) fun k86 => 
                            J63 (k86, ()) h65)) (
                          bindI 0 fun k87 => 
                          loopM (σ := Int × Unit) (fun J89 s90 h91 =>
                            (fun (k88 : Int) =>
                              derefP b fun b92 o93 => 
                              ldL h91 b92 (o93 + 5) fun t94 => 
                              idxA t94.ptr t94.len i57 1 fun b95 o96 => 
                              ldL h91 b95 o96 fun t97 => 
                              iteP (decide (k88 < (t97.len : Int))) (
                                derefP b fun b98 o99 => 
                                ldL h91 b98 (o99 + 5) fun t100 => 
                                idxA t100.ptr t100.len i57 1 fun b101 o102 => 
                                ldL h91 b101 o102 fun t103 => 
                                idxA t103.ptr t103.len k88 12 fun b104 o105 => 
                                ldS h91 b104 o105 fun t106 => ldS h91 b104 (o105 + 1) fun t107 => ldB h91 b104 (o105 + 2) fun t108 => ldI h91 b104 (o105 + 3) .i64 fun t109 => ldI h91 b104 (o105 + 4) .u8 fun t110 => ldS h91 b104 (o105 + 5) fun t111 => ldI h91 b104 (o105 + 6) .u8 fun t112 => ldI h91 b104 (o105 + 7) .i64 fun t113 => ldI h91 b104 (o105 + 8) .i64 fun t114 => ldB h91 b104 (o105 + 9) fun t115 => ldI h91 b104 (o105 + 10) .i64 fun t116 => ldB h91 b104 (o105 + 11) fun t117 => 
                                iteP (!(bif strEq t106 (ByteArray.mk #[]) then (bif strEq t107 (ByteArray.mk #[]) then (bif t108 == false then (bif t109 == (IntKind.wrap .i64 ((-9000 : Int) - i57)) then (bif t110 == 0 then (bif strEq t111 (ByteArray.mk #[]) then (bif t112 == 0 then (bif t113 == 0 then (bif t114 == 0 then (bif t115 == false then (bif t116 == 0 then (bif t117 == false then true else false) else false) else false) else false) else false) else false) else false) else false) else false) else false) else false) else false)) (
                                  K false h91) (
                                  bindI (IntKind.wrap .i64 (k88 + 1)) fun k118 => 
                                  J89 (k118, ()) h91)) (
                                bindI (IntKind.wrap .i64 (i57 + 1)) fun i119 => 
                                J58 (i119, ()) h91)) s90.1) (k87, ()) h65)) s64.1) (k61, ()) h60) (
                    K true h60)) s59.1) (i56, ()) h30)) s29.1 s29.2.1) (⟨none, 0, 0⟩, i26, ()) h3)) s.1) (i, ()) h

def m_spillwaymem_Book_aloneFlows (b : Option Addr) (K : Bool → Heap → Prop) (h : Heap) : Prop := g_spillwaymem_Book_aloneFlows b K h

/-- (*spillwaymem.Book).aloneBreaks -/
def g_spillwaymem_Book_aloneBreaks (b : Option Addr) (K : Bool → Heap → Prop) (h : Heap) : Prop :=
  bindI 0 fun i => 
  loopM (σ := Int × Unit) (fun J2 s h3 =>
    (fun (i1 : Int) =>
      derefP b fun b4 o => 
      ldL h3 b4 (o + 6) fun t => 
      iteP (decide (i1 < (t.len : Int))) (
        bindI 0 fun k => 
        loopM (σ := Int × Unit) (fun J6 s7 h8 =>
          (fun (k5 : Int) =>
            derefP b fun b9 o10 => 
            ldL h8 b9 (o10 + 6) fun t11 => 
            idxA t11.ptr t11.len i1 1 fun b12 o13 => 
            ldL h8 b12 o13 fun t14 => 
            iteP (decide (k5 < (t14.len : Int))) (
              derefP b fun b15 o16 => 
              ldL h8 b15 (o16 + 6) fun t17 => 
              idxA t17.ptr t17.len i1 1 fun b18 o19 => 
              ldL h8 b18 o19 fun t20 => 
              idxA t20.ptr t20.len k5 7 fun b21 o22 => 
              sts h8 b21 o22 [Value.string (ByteArray.mk #[]), Value.int .u8 0, Value.int .i64 (IntKind.wrap .i64 ((-9000 : Int) - i1)), Value.int .i64 0, Value.int .i64 0, Value.int .i64 0, Value.int .i64 0] fun h23 => 
              bindI (IntKind.wrap .i64 (k5 + 1)) fun k24 => 
              J6 (k24, ()) h23) (
              bindI (IntKind.wrap .i64 (i1 + 1)) fun i25 => 
              J2 (i25, ()) h8)) s7.1) (k, ()) h3) (
        bindI 0 fun i26 => 
        loopM (σ := Sl × Int × Unit) (fun J28 s29 h30 =>
          (fun (all : Sl) (i27 : Int) =>
            derefP b fun b31 o32 => 
            ldL h30 b31 (o32 + 6) fun t33 => 
            iteP (decide (i27 < (t33.len : Int))) (
              derefP b fun b34 o35 => 
              ldL h30 b34 (o35 + 6) fun t36 => 
              idxA t36.ptr t36.len i27 1 fun b37 o38 => 
              ldL h30 b37 o38 fun t39 => 
              bindI 0 fun k40 => 
              loopM (σ := Sl × Int × Unit) (fun J42 s43 h44 =>
                (fun (g : Sl) (k41 : Int) =>
                  iteP (decide (k41 < 20)) (
                    newC h44 [Value.string (ByteArray.mk #[]), Value.int .u8 0, Value.int .i64 (IntKind.wrap .i64 ((-9000 : Int) - i27)), Value.int .i64 0, Value.int .i64 0, Value.int .i64 0, Value.int .i64 0] 125 fun b45 h46 => 
                    rdS ⟨some ⟨b45, 0, none⟩, 1, 1⟩ 7 h46 fun new => app 125 7 64 [Value.string (ByteArray.mk #[]), Value.int .u8 0, Value.int .i64 0, Value.int .i64 0, Value.int .i64 0, Value.int .i64 0, Value.int .i64 0] g 1 new h46 fun t47 h48 => 
                    bindI (IntKind.wrap .i64 (k41 + 1)) fun k49 => 
                    J42 (t47, k49, ()) h48) (
                    newC h44 [Value.slice g.ptr g.len g.cap] 122 fun b50 h51 => 
                    rdS ⟨some ⟨b50, 0, none⟩, 1, 1⟩ 1 h51 fun new54 => app 122 1 24 [Value.slice none 0 0] all 1 new54 h51 fun t52 h53 => 
                    bindI (IntKind.wrap .i64 (i27 + 1)) fun i55 => 
                    J28 (t52, i55, ()) h53)) s43.1 s43.2.1) (t39, k40, ()) h30) (
              bindI 0 fun i56 => 
              loopM (σ := Int × Unit) (fun J58 s59 h60 =>
                (fun (i57 : Int) =>
                  iteP (decide (i57 < (all.len : Int))) (
                    bindI 0 fun k61 => 
                    loopM (σ := Int × Unit) (fun J63 s64 h65 =>
                      (fun (k62 : Int) =>
                        idxA all.ptr all.len i57 1 fun b66 o67 => 
                        ldL h65 b66 o67 fun t68 => 
                        iteP (decide (k62 < (t68.len : Int))) (
                          idxA all.ptr all.len i57 1 fun b69 o70 => 
                          ldL h65 b69 o70 fun t71 => 
                          idxA t71.ptr t71.len k62 7 fun b72 o73 => 
                          ldS h65 b72 o73 fun t74 => ldI h65 b72 (o73 + 1) .u8 fun t75 => ldI h65 b72 (o73 + 2) .i64 fun t76 => ldI h65 b72 (o73 + 3) .i64 fun t77 => ldI h65 b72 (o73 + 4) .i64 fun t78 => ldI h65 b72 (o73 + 5) .i64 fun t79 => ldI h65 b72 (o73 + 6) .i64 fun t80 => 
                          iteP (!(bif strEq t74 (ByteArray.mk #[]) then (bif t75 == 0 then (bif t76 == (IntKind.wrap .i64 ((-9000 : Int) - i57)) then (bif t77 == 0 then (bif t78 == 0 then (bif t79 == 0 then (bif t80 == 0 then true else false) else false) else false) else false) else false) else false) else false)) (
                            K false h65) (
                            bindI (IntKind.wrap .i64 (k62 + 1)) fun k81 => 
                            J63 (k81, ()) h65)) (
                          bindI 0 fun k82 => 
                          loopM (σ := Int × Unit) (fun J84 s85 h86 =>
                            (fun (k83 : Int) =>
                              derefP b fun b87 o88 => 
                              ldL h86 b87 (o88 + 6) fun t89 => 
                              idxA t89.ptr t89.len i57 1 fun b90 o91 => 
                              ldL h86 b90 o91 fun t92 => 
                              iteP (decide (k83 < (t92.len : Int))) (
                                derefP b fun b93 o94 => 
                                ldL h86 b93 (o94 + 6) fun t95 => 
                                idxA t95.ptr t95.len i57 1 fun b96 o97 => 
                                ldL h86 b96 o97 fun t98 => 
                                idxA t98.ptr t98.len k83 7 fun b99 o100 => 
                                ldS h86 b99 o100 fun t101 => ldI h86 b99 (o100 + 1) .u8 fun t102 => ldI h86 b99 (o100 + 2) .i64 fun t103 => ldI h86 b99 (o100 + 3) .i64 fun t104 => ldI h86 b99 (o100 + 4) .i64 fun t105 => ldI h86 b99 (o100 + 5) .i64 fun t106 => ldI h86 b99 (o100 + 6) .i64 fun t107 => 
                                iteP (!(bif strEq t101 (ByteArray.mk #[]) then (bif t102 == 0 then (bif t103 == (IntKind.wrap .i64 ((-9000 : Int) - i57)) then (bif t104 == 0 then (bif t105 == 0 then (bif t106 == 0 then (bif t107 == 0 then true else false) else false) else false) else false) else false) else false) else false)) (
                                  K false h86) (
                                  bindI (IntKind.wrap .i64 (k83 + 1)) fun k108 => 
                                  J84 (k108, ()) h86)) (
                                bindI (IntKind.wrap .i64 (i57 + 1)) fun i109 => 
                                J58 (i109, ()) h86)) s85.1) (k82, ()) h65)) s64.1) (k61, ()) h60) (
                    K true h60)) s59.1) (i56, ()) h30)) s29.1 s29.2.1) (⟨none, 0, 0⟩, i26, ()) h3)) s.1) (i, ()) h

def m_spillwaymem_Book_aloneBreaks (b : Option Addr) (K : Bool → Heap → Prop) (h : Heap) : Prop := g_spillwaymem_Book_aloneBreaks b K h

/-- (*spillwaymem.Book).aloneSystems -/
def g_spillwaymem_Book_aloneSystems (b : Option Addr) (K : Bool → Heap → Prop) (h : Heap) : Prop :=
  bindI 0 fun i => 
  loopM (σ := Int × Unit) (fun J2 s h3 =>
    (fun (i1 : Int) =>
      derefP b fun b4 o => 
      ldL h3 b4 (o + 7) fun t => 
      iteP (decide (i1 < (t.len : Int))) (
        bindI 0 fun k => 
        loopM (σ := Int × Unit) (fun J6 s7 h8 =>
          (fun (k5 : Int) =>
            derefP b fun b9 o10 => 
            ldL h8 b9 (o10 + 7) fun t11 => 
            idxA t11.ptr t11.len i1 1 fun b12 o13 => 
            ldL h8 b12 o13 fun t14 => 
            iteP (decide (k5 < (t14.len : Int))) (
              derefP b fun b15 o16 => 
              ldL h8 b15 (o16 + 7) fun t17 => 
              idxA t17.ptr t17.len i1 1 fun b18 o19 => 
              ldL h8 b18 o19 fun t20 => 
              idxA t20.ptr t20.len k5 5 fun b21 o22 => 
              sts h8 b21 o22 [Value.int .i64 (IntKind.wrap .i64 ((-9000 : Int) - i1)), Value.int .i64 0, Value.int .i64 0, Value.int .i64 0, Value.int .i64 0] fun h23 => 
              bindI (IntKind.wrap .i64 (k5 + 1)) fun k24 => 
              J6 (k24, ()) h23) (
              bindI (IntKind.wrap .i64 (i1 + 1)) fun i25 => 
              J2 (i25, ()) h8)) s7.1) (k, ()) h3) (
        bindI 0 fun i26 => 
        loopM (σ := Sl × Int × Unit) (fun J28 s29 h30 =>
          (fun (all : Sl) (i27 : Int) =>
            derefP b fun b31 o32 => 
            ldL h30 b31 (o32 + 7) fun t33 => 
            iteP (decide (i27 < (t33.len : Int))) (
              derefP b fun b34 o35 => 
              ldL h30 b34 (o35 + 7) fun t36 => 
              idxA t36.ptr t36.len i27 1 fun b37 o38 => 
              ldL h30 b37 o38 fun t39 => 
              bindI 0 fun k40 => 
              loopM (σ := Sl × Int × Unit) (fun J42 s43 h44 =>
                (fun (g : Sl) (k41 : Int) =>
                  iteP (decide (k41 < 20)) (
                    newC h44 [Value.int .i64 (IntKind.wrap .i64 ((-9000 : Int) - i27)), Value.int .i64 0, Value.int .i64 0, Value.int .i64 0, Value.int .i64 0] 128 fun b45 h46 => 
                    rdS ⟨some ⟨b45, 0, none⟩, 1, 1⟩ 5 h46 fun new => app 128 5 40 [Value.int .i64 0, Value.int .i64 0, Value.int .i64 0, Value.int .i64 0, Value.int .i64 0] g 1 new h46 fun t47 h48 => 
                    bindI (IntKind.wrap .i64 (k41 + 1)) fun k49 => 
                    J42 (t47, k49, ()) h48) (
                    newC h44 [Value.slice g.ptr g.len g.cap] 126 fun b50 h51 => 
                    rdS ⟨some ⟨b50, 0, none⟩, 1, 1⟩ 1 h51 fun new54 => app 126 1 24 [Value.slice none 0 0] all 1 new54 h51 fun t52 h53 => 
                    bindI (IntKind.wrap .i64 (i27 + 1)) fun i55 => 
                    J28 (t52, i55, ()) h53)) s43.1 s43.2.1) (t39, k40, ()) h30) (
              bindI 0 fun i56 => 
              loopM (σ := Int × Unit) (fun J58 s59 h60 =>
                (fun (i57 : Int) =>
                  iteP (decide (i57 < (all.len : Int))) (
                    bindI 0 fun k61 => 
                    loopM (σ := Int × Unit) (fun J63 s64 h65 =>
                      (fun (k62 : Int) =>
                        idxA all.ptr all.len i57 1 fun b66 o67 => 
                        ldL h65 b66 o67 fun t68 => 
                        iteP (decide (k62 < (t68.len : Int))) (
                          idxA all.ptr all.len i57 1 fun b69 o70 => 
                          ldL h65 b69 o70 fun t71 => 
                          idxA t71.ptr t71.len k62 5 fun b72 o73 => 
                          ldI h65 b72 o73 .i64 fun t74 => ldI h65 b72 (o73 + 1) .i64 fun t75 => ldI h65 b72 (o73 + 2) .i64 fun t76 => ldI h65 b72 (o73 + 3) .i64 fun t77 => ldI h65 b72 (o73 + 4) .i64 fun t78 => 
                          iteP (!(bif t74 == (IntKind.wrap .i64 ((-9000 : Int) - i57)) then (bif t75 == 0 then (bif t76 == 0 then (bif t77 == 0 then (bif t78 == 0 then true else false) else false) else false) else false) else false)) (
                            K false h65) (
                            bindI (IntKind.wrap .i64 (k62 + 1)) fun k79 => 
                            J63 (k79, ()) h65)) (
                          bindI 0 fun k80 => 
                          loopM (σ := Int × Unit) (fun J82 s83 h84 =>
                            (fun (k81 : Int) =>
                              derefP b fun b85 o86 => 
                              ldL h84 b85 (o86 + 7) fun t87 => 
                              idxA t87.ptr t87.len i57 1 fun b88 o89 => 
                              ldL h84 b88 o89 fun t90 => 
                              iteP (decide (k81 < (t90.len : Int))) (
                                derefP b fun b91 o92 => 
                                ldL h84 b91 (o92 + 7) fun t93 => 
                                idxA t93.ptr t93.len i57 1 fun b94 o95 => 
                                ldL h84 b94 o95 fun t96 => 
                                idxA t96.ptr t96.len k81 5 fun b97 o98 => 
                                ldI h84 b97 o98 .i64 fun t99 => ldI h84 b97 (o98 + 1) .i64 fun t100 => ldI h84 b97 (o98 + 2) .i64 fun t101 => ldI h84 b97 (o98 + 3) .i64 fun t102 => ldI h84 b97 (o98 + 4) .i64 fun t103 => 
                                iteP (!(bif t99 == (IntKind.wrap .i64 ((-9000 : Int) - i57)) then (bif t100 == 0 then (bif t101 == 0 then (bif t102 == 0 then (bif t103 == 0 then true else false) else false) else false) else false) else false)) (
                                  K false h84) (
                                  bindI (IntKind.wrap .i64 (k81 + 1)) fun k104 => 
                                  J82 (k104, ()) h84)) (
                                bindI (IntKind.wrap .i64 (i57 + 1)) fun i105 => 
                                J58 (i105, ()) h84)) s83.1) (k80, ()) h65)) s64.1) (k61, ()) h60) (
                    K true h60)) s59.1) (i56, ()) h30)) s29.1 s29.2.1) (⟨none, 0, 0⟩, i26, ()) h3)) s.1) (i, ()) h

def m_spillwaymem_Book_aloneSystems (b : Option Addr) (K : Bool → Heap → Prop) (h : Heap) : Prop := g_spillwaymem_Book_aloneSystems b K h

/-- (*spillwaymem.Book).Alone -/
def g_spillwaymem_Book_Alone (f_spillwaymem_Book_aloneBytes : (Option Addr) → (Bool → Heap → Prop) → Heap → Prop) (f_spillwaymem_Book_aloneTexts : (Option Addr) → (Bool → Heap → Prop) → Heap → Prop) (f_spillwaymem_Book_aloneInts : (Option Addr) → (Bool → Heap → Prop) → Heap → Prop) (f_spillwaymem_Book_aloneCounts : (Option Addr) → (Bool → Heap → Prop) → Heap → Prop) (f_spillwaymem_Book_aloneItems : (Option Addr) → (Bool → Heap → Prop) → Heap → Prop) (f_spillwaymem_Book_aloneFlows : (Option Addr) → (Bool → Heap → Prop) → Heap → Prop) (f_spillwaymem_Book_aloneBreaks : (Option Addr) → (Bool → Heap → Prop) → Heap → Prop) (f_spillwaymem_Book_aloneSystems : (Option Addr) → (Bool → Heap → Prop) → Heap → Prop) (b : Option Addr) (K : Bool → Heap → Prop) (h : Heap) : Prop :=
  f_spillwaymem_Book_aloneBytes b (fun t h1 =>
    iteP t (
      f_spillwaymem_Book_aloneTexts b (fun t2 h3 =>
        iteP t2 (
          f_spillwaymem_Book_aloneInts b (fun t4 h5 =>
            iteP t4 (
              f_spillwaymem_Book_aloneCounts b (fun t6 h7 =>
                iteP t6 (
                  f_spillwaymem_Book_aloneItems b (fun t8 h9 =>
                    iteP t8 (
                      f_spillwaymem_Book_aloneFlows b (fun t10 h11 =>
                        iteP t10 (
                          f_spillwaymem_Book_aloneBreaks b (fun t12 h13 =>
                            iteP t12 (
                              f_spillwaymem_Book_aloneSystems b (fun t14 h15 =>
                                bindB t14 fun ok => 
                                derefP b fun b16 o => 
                                sts h15 b16 o [Value.slice none 0 0, Value.slice none 0 0, Value.slice none 0 0, Value.slice none 0 0, Value.slice none 0 0, Value.slice none 0 0, Value.slice none 0 0, Value.slice none 0 0] fun h17 => 
                                bindB ok fun t18 => 
                                K t18 h17) h13) (
                              derefP b fun b19 o20 => 
                              sts h13 b19 o20 [Value.slice none 0 0, Value.slice none 0 0, Value.slice none 0 0, Value.slice none 0 0, Value.slice none 0 0, Value.slice none 0 0, Value.slice none 0 0, Value.slice none 0 0] fun h21 => 
                              K false h21)) h11) (
                          derefP b fun b22 o23 => 
                          sts h11 b22 o23 [Value.slice none 0 0, Value.slice none 0 0, Value.slice none 0 0, Value.slice none 0 0, Value.slice none 0 0, Value.slice none 0 0, Value.slice none 0 0, Value.slice none 0 0] fun h24 => 
                          K false h24)) h9) (
                      derefP b fun b25 o26 => 
                      sts h9 b25 o26 [Value.slice none 0 0, Value.slice none 0 0, Value.slice none 0 0, Value.slice none 0 0, Value.slice none 0 0, Value.slice none 0 0, Value.slice none 0 0, Value.slice none 0 0] fun h27 => 
                      K false h27)) h7) (
                  derefP b fun b28 o29 => 
                  sts h7 b28 o29 [Value.slice none 0 0, Value.slice none 0 0, Value.slice none 0 0, Value.slice none 0 0, Value.slice none 0 0, Value.slice none 0 0, Value.slice none 0 0, Value.slice none 0 0] fun h30 => 
                  K false h30)) h5) (
              derefP b fun b31 o32 => 
              sts h5 b31 o32 [Value.slice none 0 0, Value.slice none 0 0, Value.slice none 0 0, Value.slice none 0 0, Value.slice none 0 0, Value.slice none 0 0, Value.slice none 0 0, Value.slice none 0 0] fun h33 => 
              K false h33)) h3) (
          derefP b fun b34 o35 => 
          sts h3 b34 o35 [Value.slice none 0 0, Value.slice none 0 0, Value.slice none 0 0, Value.slice none 0 0, Value.slice none 0 0, Value.slice none 0 0, Value.slice none 0 0, Value.slice none 0 0] fun h36 => 
          K false h36)) h1) (
      derefP b fun b37 o38 => 
      sts h1 b37 o38 [Value.slice none 0 0, Value.slice none 0 0, Value.slice none 0 0, Value.slice none 0 0, Value.slice none 0 0, Value.slice none 0 0, Value.slice none 0 0, Value.slice none 0 0] fun h39 => 
      K false h39)) h

def m_spillwaymem_Book_Alone (b : Option Addr) (K : Bool → Heap → Prop) (h : Heap) : Prop := g_spillwaymem_Book_Alone m_spillwaymem_Book_aloneBytes m_spillwaymem_Book_aloneTexts m_spillwaymem_Book_aloneInts m_spillwaymem_Book_aloneCounts m_spillwaymem_Book_aloneItems m_spillwaymem_Book_aloneFlows m_spillwaymem_Book_aloneBreaks m_spillwaymem_Book_aloneSystems b K h

/-- spillwaylaw02.WorldShuffles -/
def g_spillwaylaw02_WorldShuffles (f_spillwaylaw02_live : (Bool → Heap → Prop) → Heap → Prop) (f_world_NewChance : Int → ((Option Addr) → Heap → Prop) → Heap → Prop) (f_world_Chance_Shuffle : (Option Addr) → Int → (Sl → Int → Heap → Prop) → Heap → Prop) (f_spillwaymem_SameInts : Sl → Sl → (Bool → Heap → Prop) → Heap → Prop) (f_world_Chance_Below : (Option Addr) → Int → (Int → Int → Heap → Prop) → Heap → Prop) (f_spillwaymem_Book_TakeInts : (Option Addr) → Sl → (Heap → Prop) → Heap → Prop) (f_spillwaymem_Book_Alone : (Option Addr) → (Bool → Heap → Prop) → Heap → Prop) (seed : Int) (n : Int) (below : Int) (K : Bool → Heap → Prop) (h : Heap) : Prop :=
  f_spillwaylaw02_live (fun t h1 =>
    iteP (!t) (
      K false h1) (
      f_world_NewChance seed (fun t2 h3 =>
        f_world_NewChance seed (fun t4 h5 =>
          f_world_Chance_Shuffle t2 n (fun t6 t7 h8 =>
            bindI t7 fun e => 
            f_world_Chance_Shuffle t4 n (fun t9 t10 h11 =>
              bindI t10 fun f => 
              cutP (σ := Unit) (fun s h15 =>
                mkS 4 1 [Value.bool false] (t6.len : Int) (t6.len : Int) h15 fun t16 h17 => 
                bindI 0 fun i => 
                loopM (σ := Int × Unit) (fun J19 s20 h21 =>
                  (fun (i18 : Int) =>
                    iteP (decide (i18 < (t6.len : Int))) (
                      idxA t6.ptr t6.len i18 1 fun b o => 
                      ldI h21 b o .i64 fun t22 => 
                      iteP (decide (t22 < 0)) (
                        K false h21) (
                        idxA t6.ptr t6.len i18 1 fun b23 o24 => 
                        ldI h21 b23 o24 .i64 fun t25 => 
                        iteP (decide (t25 ≥ (t6.len : Int))) (
                          K false h21) (
                          idxA t6.ptr t6.len i18 1 fun b26 o27 => 
                          ldI h21 b26 o27 .i64 fun t28 => 
                          idxA t16.ptr t16.len t28 1 fun b29 o30 => 
                          ldB h21 b29 o30 fun t31 => 
                          iteP t31 (
                            K false h21) (
                            idxA t6.ptr t6.len i18 1 fun b32 o33 => 
                            ldI h21 b32 o33 .i64 fun t34 => 
                            idxA t16.ptr t16.len t34 1 fun b35 o36 => 
                            st h21 b35 o36 (Value.bool true) fun h37 => 
                            bindI (IntKind.wrap .i64 (i18 + 1)) fun i38 => 
                            J19 (i38, ()) h37)))) (
                      f_world_Chance_Below t2 below (fun t39 t40 h41 =>
                        bindI t39 fun x => 
                        bindI t40 fun g => 
                        cutP (σ := Unit) (fun s43 h44 =>
                          newC h44 [Value.slice none 0 0, Value.slice none 0 0, Value.slice none 0 0, Value.slice none 0 0, Value.slice none 0 0, Value.slice none 0 0, Value.slice none 0 0, Value.slice none 0 0] 88 fun b45 h46 => 
                          f_spillwaymem_Book_TakeInts (some ⟨b45, 0, none⟩) t6 (fun h47 =>
                            f_spillwaymem_Book_TakeInts (some ⟨b45, 0, none⟩) t9 (fun h48 =>
                              f_spillwaymem_Book_Alone (some ⟨b45, 0, none⟩) (fun t49 h50 =>
                                bindB t49 fun t51 => 
                                K t51 h50) h48) h47) h46) (fun J42 =>
                          iteP (g == 0) (
                            iteP (decide (x < 0)) (
                              K false h41) (
                              iteP (decide (x ≥ below)) (
                                K false h41) (
                                iteP ((g == 0) != (decide (below ≥ 1))) (
                                  K false h41) (
                                  J42 (()) h41)))) (
                            iteP ((g == 0) != (decide (below ≥ 1))) (
                              K false h41) (
                              J42 (()) h41)))) h21)) s20.1) (i, ()) h17) (fun J12 =>
                iteP (e != f) (
                  K false h11) (
                  f_spillwaymem_SameInts t6 t9 (fun t13 h14 =>
                    iteP (!t13) (
                      K false h14) (
                      iteP (e == 0) (
                        iteP ((t6.len : Int) != n) (
                          K false h14) (
                          J12 (()) h14)) (
                        J12 (()) h14))) h11))) h8) h5) h3) h1)) h

def m_spillwaylaw02_WorldShuffles (seed : Int) (n : Int) (below : Int) (K : Bool → Heap → Prop) (h : Heap) : Prop := g_spillwaylaw02_WorldShuffles m_spillwaylaw02_live m_world_NewChance m_world_Chance_Shuffle m_spillwaymem_SameInts m_world_Chance_Below m_spillwaymem_Book_TakeInts m_spillwaymem_Book_Alone seed n below K h

/-- spillwayref02.NewChance -/
def g_spillwayref02_NewChance (seed : Int) (K : (Option Addr) → Heap → Prop) (h : Heap) : Prop :=
  newC h [Value.int .u64 seed] 106 fun b h1 => 
  K (some ⟨b, 0, none⟩) h1

def m_spillwayref02_NewChance (seed : Int) (K : (Option Addr) → Heap → Prop) (h : Heap) : Prop := g_spillwayref02_NewChance seed K h

/-- spillwayref02.Mix -/
def g_spillwayref02_Mix (x : Int) (K : Int → Heap → Prop) (h : Heap) : Prop :=
  bindI 0 fun t => 
  need (0 ≤ (30 : Int)) <| 
  bindI (xorV .u64 x (shrV .u64 x 30)) fun x1 => 
  bindI (IntKind.wrap .u64 (x1 * 13787848793156543929)) fun x2 => 
  need (0 ≤ (27 : Int)) <| 
  bindI (xorV .u64 x2 (shrV .u64 x2 27)) fun x3 => 
  bindI (IntKind.wrap .u64 (x3 * 10723151780598845931)) fun x4 => 
  need (0 ≤ (31 : Int)) <| 
  bindI (xorV .u64 x4 (shrV .u64 x4 31)) fun x5 => 
  bindI x5 fun t6 => 
  K t6 h

def m_spillwayref02_Mix (x : Int) (K : Int → Heap → Prop) (h : Heap) : Prop := g_spillwayref02_Mix x K h

/-- (*spillwayref02.Chance).Next -/
def g_spillwayref02_Chance_Next (f_spillwayref02_Mix : Int → (Int → Heap → Prop) → Heap → Prop) (c : Option Addr) (K : Int → Heap → Prop) (h : Heap) : Prop :=
  bindI 0 fun t => 
  iteP c.isNone (
    bindI 0 fun t1 => 
    K t1 h) (
    derefP c fun b o => 
    ldI h b o .u64 fun t2 => 
    derefP c fun b3 o4 => 
    st h b3 o4 (Value.int .u64 (IntKind.wrap .u64 (t2 + 11400714819323198485))) fun h5 => 
    derefP c fun b6 o7 => 
    ldI h5 b6 o7 .u64 fun t8 => 
    f_spillwayref02_Mix t8 (fun t9 h10 =>
      bindI t9 fun t11 => 
      K t11 h10) h5)

def m_spillwayref02_Chance_Next (c : Option Addr) (K : Int → Heap → Prop) (h : Heap) : Prop := g_spillwayref02_Chance_Next m_spillwayref02_Mix c K h

/-- (*spillwayref02.Chance).Below -/
def g_spillwayref02_Chance_Below (f_spillwayref02_Chance_Next : (Option Addr) → (Int → Heap → Prop) → Heap → Prop) (c : Option Addr) (n : Int) (K : Int → Int → Heap → Prop) (h : Heap) : Prop :=
  bindI 0 fun t => 
  bindI 0 fun t1 => 
  iteP c.isNone (
    bindI 0 fun t2 => 
    bindI 1 fun t3 => 
    K t2 t3 h) (
    iteP (decide (n < 1)) (
      bindI 0 fun t4 => 
      bindI 2 fun t5 => 
      K t4 t5 h) (
      f_spillwayref02_Chance_Next c (fun t6 h7 =>
        need ((IntKind.wrap .u64 n) ≠ 0) <| 
        bindI (IntKind.wrap .i64 (Int.tmod t6 (IntKind.wrap .u64 n))) fun t8 => 
        bindI 0 fun t9 => 
        K t8 t9 h7) h))

def m_spillwayref02_Chance_Below (c : Option Addr) (n : Int) (K : Int → Int → Heap → Prop) (h : Heap) : Prop := g_spillwayref02_Chance_Below m_spillwayref02_Chance_Next c n K h

/-- (*spillwayref02.Chance).Shuffle -/
def g_spillwayref02_Chance_Shuffle (f_spillwayref02_Chance_Below : (Option Addr) → Int → (Int → Int → Heap → Prop) → Heap → Prop) (c : Option Addr) (n : Int) (K : Sl → Int → Heap → Prop) (h : Heap) : Prop :=
  bindI 0 fun t => 
  iteP c.isNone (
    bindI 1 fun t1 => 
    K ⟨none, 0, 0⟩ t1 h) (
    iteP (decide (n < 0)) (
      bindI 2 fun t2 => 
      K ⟨none, 0, 0⟩ t2 h) (
      iteP (decide (n > 4096)) (
        bindI 2 fun t3 => 
        K ⟨none, 0, 0⟩ t3 h) (
        bindI 0 fun i => 
        loopM (σ := Sl × Int × Unit) (fun J5 s h6 =>
          (fun (l : Sl) (i4 : Int) =>
            iteP (decide (i4 < n)) (
              newC h6 [Value.int .i64 i4] 3 fun b h7 => 
              rdS ⟨some ⟨b, 0, none⟩, 1, 1⟩ 1 h7 fun new => app 3 1 8 [Value.int .i64 0] l 1 new h7 fun t8 h9 => 
              bindI (IntKind.wrap .i64 (i4 + 1)) fun i10 => 
              J5 (t8, i10, ()) h9) (
              bindI (IntKind.wrap .i64 (n - 1)) fun i11 => 
              loopM (σ := Int × Unit) (fun J13 s14 h15 =>
                (fun (i12 : Int) =>
                  iteP (decide (i12 ≥ 1)) (
                    f_spillwayref02_Chance_Below c (IntKind.wrap .i64 (i12 + 1)) (fun t16 t17 h18 =>
                      bindI t16 fun k => 
                      bindI t17 fun _ => 
                      idxA l.ptr l.len k 1 fun b19 o => 
                      idxA l.ptr l.len i12 1 fun b20 o21 => 
                      ldI h18 b19 o .i64 fun t22 => 
                      ldI h18 b20 o21 .i64 fun t23 => 
                      idxA l.ptr l.len i12 1 fun b24 o25 => 
                      st h18 b24 o25 (Value.int .i64 t22) fun h26 => 
                      idxA l.ptr l.len k 1 fun b27 o28 => 
                      st h26 b27 o28 (Value.int .i64 t23) fun h29 => 
                      bindI (IntKind.wrap .i64 (i12 - 1)) fun i30 => 
                      J13 (i30, ()) h29) h15) (
                    bindI 0 fun t31 => 
                    K l t31 h15)) s14.1) (i11, ()) h6)) s.1 s.2.1) (⟨none, 0, 0⟩, i, ()) h)))

def m_spillwayref02_Chance_Shuffle (c : Option Addr) (n : Int) (K : Sl → Int → Heap → Prop) (h : Heap) : Prop := g_spillwayref02_Chance_Shuffle m_spillwayref02_Chance_Below c n K h

/-- (*world.Chance).Fork -/
def g_world_Chance_Fork (c : Option Addr) (K : (Option Addr) → Heap → Prop) (h : Heap) : Prop :=
  iteP c.isNone (
    K none h) (
    derefP c fun b o => 
    ldI h b o .u64 fun t => 
    newC h [Value.int .u64 t] 104 fun b1 h2 => 
    K (some ⟨b1, 0, none⟩) h2)

def m_world_Chance_Fork (c : Option Addr) (K : (Option Addr) → Heap → Prop) (h : Heap) : Prop := g_world_Chance_Fork c K h

/-- spillwaylaw02.WorldChances -/
def g_spillwaylaw02_WorldChances (f_world_NewChance : Int → ((Option Addr) → Heap → Prop) → Heap → Prop) (f_spillwayref02_NewChance : Int → ((Option Addr) → Heap → Prop) → Heap → Prop) (f_spillwaylaw02_live : (Bool → Heap → Prop) → Heap → Prop) (f_world_Mix : Int → (Int → Heap → Prop) → Heap → Prop) (f_spillwayref02_Mix : Int → (Int → Heap → Prop) → Heap → Prop) (f_world_Chance_Shuffle : (Option Addr) → Int → (Sl → Int → Heap → Prop) → Heap → Prop) (f_spillwayref02_Chance_Shuffle : (Option Addr) → Int → (Sl → Int → Heap → Prop) → Heap → Prop) (f_spillwaymem_SameInts : Sl → Sl → (Bool → Heap → Prop) → Heap → Prop) (f_world_Chance_Below : (Option Addr) → Int → (Int → Int → Heap → Prop) → Heap → Prop) (f_spillwayref02_Chance_Below : (Option Addr) → Int → (Int → Int → Heap → Prop) → Heap → Prop) (f_world_Chance_Fork : (Option Addr) → ((Option Addr) → Heap → Prop) → Heap → Prop) (f_spillwayref02_Chance_Next : (Option Addr) → (Int → Heap → Prop) → Heap → Prop) (f_world_Chance_Next : (Option Addr) → (Int → Heap → Prop) → Heap → Prop) (seed : Int) (l : Sl) (K : Bool → Heap → Prop) (h : Heap) : Prop :=
  f_world_NewChance seed (fun t h1 =>
    f_spillwayref02_NewChance seed (fun t2 h3 =>
      f_spillwaylaw02_live (fun t4 h5 =>
        iteP (!t4) (
          K false h5) (
          f_world_Mix seed (fun t6 h7 =>
            f_spillwayref02_Mix seed (fun t8 h9 =>
              iteP (t6 != t8) (
                K false h9) (
                bindI 0 fun i => 
                loopM (σ := Int × Unit) (fun J11 s h12 =>
                  (fun (i10 : Int) =>
                    iteP (decide (i10 < (l.len : Int))) (
                      need ((4 : Int) ≠ 0) <| 
                      iteP ((Int.tmod i10 4) == 3) (
                        idxA l.ptr l.len i10 1 fun b o => 
                        ldI h12 b o .i64 fun t13 => 
                        f_world_Chance_Shuffle t t13 (fun t14 t15 h16 =>
                          bindI t15 fun e => 
                          idxA l.ptr l.len i10 1 fun b17 o18 => 
                          ldI h16 b17 o18 .i64 fun t19 => 
                          f_spillwayref02_Chance_Shuffle t2 t19 (fun t20 t21 h22 =>
                            bindI t21 fun f => 
                            f_spillwaymem_SameInts t14 t20 (fun t23 h24 =>
                              iteP (!t23) (
                                K false h24) (
                                iteP (e != f) (
                                  K false h24) (
                                  bindI (IntKind.wrap .i64 (i10 + 1)) fun i25 => 
                                  J11 (i25, ()) h24))) h22) h16) h12) (
                        idxA l.ptr l.len i10 1 fun b26 o27 => 
                        ldI h12 b26 o27 .i64 fun t28 => 
                        f_world_Chance_Below t t28 (fun t29 t30 h31 =>
                          bindI t29 fun a => 
                          bindI t30 fun e32 => 
                          idxA l.ptr l.len i10 1 fun b33 o34 => 
                          ldI h31 b33 o34 .i64 fun t35 => 
                          f_spillwayref02_Chance_Below t2 t35 (fun t36 t37 h38 =>
                            bindI t36 fun b39 => 
                            bindI t37 fun f40 => 
                            iteP (a != b39) (
                              K false h38) (
                              iteP (e32 != f40) (
                                K false h38) (
                                bindI (IntKind.wrap .i64 (i10 + 1)) fun i41 => 
                                J11 (i41, ()) h38))) h31) h12)) (
                      f_world_Chance_Fork t (fun t42 h43 =>
                        f_spillwayref02_Chance_Next t2 (fun t44 h45 =>
                          bindI t44 fun x => 
                          f_world_Chance_Next t42 (fun t46 h47 =>
                            iteP (t46 == x) (
                              f_world_Chance_Next t (fun t48 h49 =>
                                iteP (t48 == x) (
                                  f_world_Chance_Next t42 (fun t50 h51 =>
                                    f_spillwayref02_Chance_Next t2 (fun t52 h53 =>
                                      bindB (t50 == t52) fun t54 => 
                                      K t54 h53) h51) h49) (
                                  K false h49)) h47) (
                              K false h47)) h45) h43) h12)) s.1) (i, ()) h9)) h7) h5)) h3) h1) h

def m_spillwaylaw02_WorldChances (seed : Int) (l : Sl) (K : Bool → Heap → Prop) (h : Heap) : Prop := g_spillwaylaw02_WorldChances m_world_NewChance m_spillwayref02_NewChance m_spillwaylaw02_live m_world_Mix m_spillwayref02_Mix m_world_Chance_Shuffle m_spillwayref02_Chance_Shuffle m_spillwaymem_SameInts m_world_Chance_Below m_spillwayref02_Chance_Below m_world_Chance_Fork m_spillwayref02_Chance_Next m_world_Chance_Next seed l K h

/-- spillwaylaw02.WorldNone -/
def g_spillwaylaw02_WorldNone (f_world_Clock_Tick : (Option Addr) → Sl → (Int → Int → Heap → Prop) → Heap → Prop) (f_world_Chance_Below : (Option Addr) → Int → (Int → Int → Heap → Prop) → Heap → Prop) (f_world_Chance_Shuffle : (Option Addr) → Int → (Sl → Int → Heap → Prop) → Heap → Prop) (f_spillwaylaw02_live : (Bool → Heap → Prop) → Heap → Prop) (f_world_Clock_Now : (Option Addr) → (Int → Heap → Prop) → Heap → Prop) (f_world_Clock_Set : (Option Addr) → Int → (Int → Heap → Prop) → Heap → Prop) (f_world_Clock_Fork : (Option Addr) → ((Option Addr) → Heap → Prop) → Heap → Prop) (f_world_Chance_Next : (Option Addr) → (Int → Heap → Prop) → Heap → Prop) (f_world_Chance_Fork : (Option Addr) → ((Option Addr) → Heap → Prop) → Heap → Prop) (f_world_Load_Add : (Option Addr) → Sl → (Int → Heap → Prop) → Heap → Prop) (f_world_Load_At : (Option Addr) → Int → ((Int × Int × Int × Unit) → Heap → Prop) → Heap → Prop) (f_world_Load_Samples : (Option Addr) → (Sl → Heap → Prop) → Heap → Prop) (f_world_Load_Fork : (Option Addr) → ((Option Addr) → Heap → Prop) → Heap → Prop) (n : Int) (K : Bool → Heap → Prop) (h : Heap) : Prop :=
  newC h [Value.int .i64 n] 3 fun b h1 => 
  f_world_Clock_Tick none ⟨some ⟨b, 0, none⟩, 1, 1⟩ (fun t t2 h3 =>
    bindI t fun _ => 
    bindI t2 fun e => 
    f_world_Chance_Below none n (fun t4 t5 h6 =>
      bindI t4 fun _7 => 
      bindI t5 fun f => 
      f_world_Chance_Shuffle none n (fun t8 t9 h10 =>
        bindI t9 fun g => 
        f_spillwaylaw02_live (fun t11 h12 =>
          iteP t11 (
            f_world_Clock_Now none (fun t13 h14 =>
              iteP (t13 == 0) (
                iteP (e == 1) (
                  f_world_Clock_Set none n (fun t15 h16 =>
                    iteP (t15 == 1) (
                      f_world_Clock_Fork none (fun t17 h18 =>
                        iteP t17.isNone (
                          f_world_Chance_Next none (fun t19 h20 =>
                            iteP (t19 == 0) (
                              iteP (f == 1) (
                                iteP (g == 1) (
                                  f_world_Chance_Fork none (fun t21 h22 =>
                                    iteP t21.isNone (
                                      f_world_Load_Add none ⟨none, 0, 0⟩ (fun t23 h24 =>
                                        iteP (t23 == 1) (
                                          f_world_Load_At none n (fun t25 h26 =>
                                            iteP (bif t25.1 == 0 then (bif t25.2.1 == 0 then (bif t25.2.2.1 == 0 then true else false) else false) else false) (
                                              f_world_Load_Samples none (fun t27 h28 =>
                                                iteP ((t27.len : Int) == 0) (
                                                  f_world_Load_Fork none (fun t29 h30 =>
                                                    bindB t29.isNone fun t31 => 
                                                    K t31 h30) h28) (
                                                  K false h28)) h26) (
                                              K false h26)) h24) (
                                          K false h24)) h22) (
                                      K false h22)) h20) (
                                  K false h20)) (
                                K false h20)) (
                              K false h20)) h18) (
                          K false h18)) h16) (
                      K false h16)) h14) (
                  K false h14)) (
                K false h14)) h12) (
            K false h12)) h10) h6) h3) h1

def m_spillwaylaw02_WorldNone (n : Int) (K : Bool → Heap → Prop) (h : Heap) : Prop := g_spillwaylaw02_WorldNone m_world_Clock_Tick m_world_Chance_Below m_world_Chance_Shuffle m_spillwaylaw02_live m_world_Clock_Now m_world_Clock_Set m_world_Clock_Fork m_world_Chance_Next m_world_Chance_Fork m_world_Load_Add m_world_Load_At m_world_Load_Samples m_world_Load_Fork n K h

end Go.Proofs.Ytkcbkiognkkhlaa
