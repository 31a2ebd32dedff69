/- Joined: C19, C20, C21, C23, D2, E5, E6, F2, G1, G2, G3, G4, L0, H1, H2, H3, H4, H5, H6, J3, J5, R0, P0, R0p, P1, P2, P3, P4, P5, A1, B1, A2, A3, B2, B3, B4, B6, B7, B8, B9, B10, B15. -/
import Derived.Test.YteogfjpaljbkoaaGreatKH3
import Derived.Laws.BitsLemmas
import Derived.Test.YteogfjpaljbkoaaGreatRows
import Derived.Test.YteogfjpaljbkoaaGreatProg
import Derived.Shelf.SlSortCmp.NoneTotal
import Derived.Lib.Small
import Derived.Lib.Walk
import Derived.StillTailTactics
import Derived.Lib.Join
import Derived.Lib.ItoaNum
set_option linter.unusedVariables false
set_option linter.unusedSimpArgs false
set_option maxRecDepth 100000
set_option maxHeartbeats 16000000
namespace Go.Proofs.YteogfjpaljbkoaaGreat
open Go.RowKit
section
open Go.Proofs.Tryz (prog)
attribute [local irreducible] CallV RoundV
theorem int2_free (a b:V) (h1:Free a) (h2:Free b):Free (.tup [a,b]):=.tup (by intro v hv;simp at hv;rcases hv with rfl|rfl<;>assumption)
theorem mul_ok (n:Nat) (hn:n≤8):PCon prog 165 [.int .u64 1,.int .u64 n] (.tup [.int .u64 0,.int .u64 n]):=by
 have hn':n=0∨n=1∨n=2∨n=3∨n=4∨n=5∨n=6∨n=7∨n=8:=by omega
 rcases hn' with rfl|rfl|rfl|rfl|rfl|rfl|rfl|rfl|rfl
 ·refine callV_of (fn:=Go.Proofs.Tryz.f165) (body:=_) tab_ok mixed rfl rfl (by decide) (by simp[Go.Proofs.Tryz.f165]) ?_
  conv=>whnf
  refine callV_of (fn:=Go.Proofs.Tryz.f210) (body:=_) tab_ok mixed rfl rfl (by decide) (by simp[Go.Proofs.Tryz.f210]) ?_
  conv=>whnf
  iterate 5
   refine⟨by decide,?_⟩
   conv=>whnf
  refine⟨_,_,_,Ends.here,?_⟩
  conv=>whnf
  exact Ends.pure [] (.eq_of (by kernel_rfl) (int2_free _ _ .int .int)) (by simp)
 ·refine callV_of (fn:=Go.Proofs.Tryz.f165) (body:=_) tab_ok mixed rfl rfl (by decide) (by simp[Go.Proofs.Tryz.f165]) ?_
  conv=>whnf
  refine callV_of (fn:=Go.Proofs.Tryz.f210) (body:=_) tab_ok mixed rfl rfl (by decide) (by simp[Go.Proofs.Tryz.f210]) ?_
  conv=>whnf
  iterate 5
   refine⟨by decide,?_⟩
   conv=>whnf
  refine⟨_,_,_,Ends.here,?_⟩
  conv=>whnf
  exact Ends.pure [] (.eq_of (by kernel_rfl) (int2_free _ _ .int .int)) (by simp)
 ·refine callV_of (fn:=Go.Proofs.Tryz.f165) (body:=_) tab_ok mixed rfl rfl (by decide) (by simp[Go.Proofs.Tryz.f165]) ?_
  conv=>whnf
  refine callV_of (fn:=Go.Proofs.Tryz.f210) (body:=_) tab_ok mixed rfl rfl (by decide) (by simp[Go.Proofs.Tryz.f210]) ?_
  conv=>whnf
  iterate 5
   refine⟨by decide,?_⟩
   conv=>whnf
  refine⟨_,_,_,Ends.here,?_⟩
  conv=>whnf
  exact Ends.pure [] (.eq_of (by kernel_rfl) (int2_free _ _ .int .int)) (by simp)
 ·refine callV_of (fn:=Go.Proofs.Tryz.f165) (body:=_) tab_ok mixed rfl rfl (by decide) (by simp[Go.Proofs.Tryz.f165]) ?_
  conv=>whnf
  refine callV_of (fn:=Go.Proofs.Tryz.f210) (body:=_) tab_ok mixed rfl rfl (by decide) (by simp[Go.Proofs.Tryz.f210]) ?_
  conv=>whnf
  iterate 5
   refine⟨by decide,?_⟩
   conv=>whnf
  refine⟨_,_,_,Ends.here,?_⟩
  conv=>whnf
  exact Ends.pure [] (.eq_of (by kernel_rfl) (int2_free _ _ .int .int)) (by simp)
 ·refine callV_of (fn:=Go.Proofs.Tryz.f165) (body:=_) tab_ok mixed rfl rfl (by decide) (by simp[Go.Proofs.Tryz.f165]) ?_
  conv=>whnf
  refine callV_of (fn:=Go.Proofs.Tryz.f210) (body:=_) tab_ok mixed rfl rfl (by decide) (by simp[Go.Proofs.Tryz.f210]) ?_
  conv=>whnf
  iterate 5
   refine⟨by decide,?_⟩
   conv=>whnf
  refine⟨_,_,_,Ends.here,?_⟩
  conv=>whnf
  exact Ends.pure [] (.eq_of (by kernel_rfl) (int2_free _ _ .int .int)) (by simp)
 ·refine callV_of (fn:=Go.Proofs.Tryz.f165) (body:=_) tab_ok mixed rfl rfl (by decide) (by simp[Go.Proofs.Tryz.f165]) ?_
  conv=>whnf
  refine callV_of (fn:=Go.Proofs.Tryz.f210) (body:=_) tab_ok mixed rfl rfl (by decide) (by simp[Go.Proofs.Tryz.f210]) ?_
  conv=>whnf
  iterate 5
   refine⟨by decide,?_⟩
   conv=>whnf
  refine⟨_,_,_,Ends.here,?_⟩
  conv=>whnf
  exact Ends.pure [] (.eq_of (by kernel_rfl) (int2_free _ _ .int .int)) (by simp)
 ·refine callV_of (fn:=Go.Proofs.Tryz.f165) (body:=_) tab_ok mixed rfl rfl (by decide) (by simp[Go.Proofs.Tryz.f165]) ?_
  conv=>whnf
  refine callV_of (fn:=Go.Proofs.Tryz.f210) (body:=_) tab_ok mixed rfl rfl (by decide) (by simp[Go.Proofs.Tryz.f210]) ?_
  conv=>whnf
  iterate 5
   refine⟨by decide,?_⟩
   conv=>whnf
  refine⟨_,_,_,Ends.here,?_⟩
  conv=>whnf
  exact Ends.pure [] (.eq_of (by kernel_rfl) (int2_free _ _ .int .int)) (by simp)
 ·refine callV_of (fn:=Go.Proofs.Tryz.f165) (body:=_) tab_ok mixed rfl rfl (by decide) (by simp[Go.Proofs.Tryz.f165]) ?_
  conv=>whnf
  refine callV_of (fn:=Go.Proofs.Tryz.f210) (body:=_) tab_ok mixed rfl rfl (by decide) (by simp[Go.Proofs.Tryz.f210]) ?_
  conv=>whnf
  iterate 5
   refine⟨by decide,?_⟩
   conv=>whnf
  refine⟨_,_,_,Ends.here,?_⟩
  conv=>whnf
  exact Ends.pure [] (.eq_of (by kernel_rfl) (int2_free _ _ .int .int)) (by simp)
 ·refine callV_of (fn:=Go.Proofs.Tryz.f165) (body:=_) tab_ok mixed rfl rfl (by decide) (by simp[Go.Proofs.Tryz.f165]) ?_
  conv=>whnf
  refine callV_of (fn:=Go.Proofs.Tryz.f210) (body:=_) tab_ok mixed rfl rfl (by decide) (by simp[Go.Proofs.Tryz.f210]) ?_
  conv=>whnf
  iterate 5
   refine⟨by decide,?_⟩
   conv=>whnf
  refine⟨_,_,_,Ends.here,?_⟩
  conv=>whnf
  exact Ends.pure [] (.eq_of (by kernel_rfl) (int2_free _ _ .int .int)) (by simp)
def repRows (x:UInt32) (m n:Nat):List (List V):=List.replicate m [cW x]++ List.replicate (n - m) [.int .u32 0]
theorem repRows_free (x:UInt32) (m n:Nat):∀r∈repRows x m n,∀v∈r,Free v:=by
 intro r hr v hv
 rcases List.mem_append.1 hr with h|h
 ·rw[List.eq_of_mem_replicate h]at hv;simp at hv;subst hv;exact .int
 ·rw[List.eq_of_mem_replicate h]at hv;simp at hv;subst hv;exact .int
theorem repRows_len (x:UInt32) (m n:Nat) (h:m≤n):(repRows x m n).length=n:=by simp[repRows];omega
theorem repRows_step (x:UInt32) (m n:Nat) (h:m≤n):(repRows x m n).take m ++ ((repRows x m n).take m).take (n - m)++ (repRows x m n).drop (m + min m (n - m))=repRows x (m + min m (n - m)) n:=by
 have h1:(repRows x m n).take m=List.replicate m [cW x]:=by
  rw[repRows,List.take_append_of_le_length (by simp),List.take_of_length_le (by simp)]
 rw[h1]
 have h2:(repRows x m n).drop (m + min m (n - m))=List.replicate (n - m - min m (n - m)) [.int .u32 0]:=by
  rw[repRows,List.drop_append,List.drop_eq_nil_of_le (by simp),List.nil_append,List.length_replicate,List.drop_replicate]
  congr 1
  omega
 rw[h2,repRows,List.take_replicate]
 rw[show List.replicate m [cW x]++ List.replicate (min (n - m) m) [cW x]=List.replicate (m + min m (n - m)) [cW x]by rw[List.replicate_append_replicate,Nat.min_comm]]
 congr 2
 omega
theorem repeat_ok (fr:Bool) (x:UInt32) (n:Nat) (hn:n≤8):PCon prog 128 [encW fr [x],cI n] (encW true (List.replicate n x)):=by
 refine callV_of (fn:=Go.Proofs.Tryz.f128) (body:=_) tab_ok mixed rfl rfl (by decide) (by simp[Go.Proofs.Tryz.f128]) ?_
 conv=>whnf
 intro _
 conv=>whnf
 refine callV_pure (mul_ok n hn) ⟨.int_of ?_,.int_of ?_,trivial⟩ ?_
 ·simp[wrapu64]
 ·rw[wrapu64];omega
 conv=>whnf
 rw[show decide (((9223372036854775807:Int)) < (n:Int))=false by simp;omega]
 conv=>whnf
 have hw:IntKind.i64.wrap (n:Int)=n:=by rw[wrap64]<;>omega
 rw[hw]
 refine⟨⟨by omega,by omega,by simp[tab,tabOf,nth];omega,by omega⟩,?_⟩
 conv=>whnf
 refine⟨⟨rfl,rfl,rfl⟩,by simp,?_⟩
 conv=>whnf
 refine vcg_loop tab_ok mixed (fun m:{m:Nat // m≤n∧(m=0→n=0)}=>⟨[(7,.osl 0 1 0 n),(8,cI m.1)],[(0,some (.arr true true 22 1 (repRows x m.1 n)))],1⟩) (fun m=>n - m.1) ⟨min 1 n,by omega,by omega⟩ ?_ (fun m=>?_)
 ·refine Wk.of id [] ⟨.osl_of rfl (by omega) (by simp),.int_of (by simp),trivial⟩ (LeH.of ⟨⟨by omega,.inl ⟨by simp,_,rfl,LeB.eq_of ?_ (repRows_free _ _ _)⟩⟩,trivial⟩ (fun _ _ _ _ h=>h) (fun _ _=>rfl) (by omega) (by simp))
  rw[Int.toNat_natCast]
  simp only[List.length_map,List.length_cons,List.length_nil,Nat.zero_add,List.take_zero,List.nil_append,List.drop_replicate,repRows]
  congr 1
  rcases n with _|n
  ·rfl
  ·simp[Nat.min_eq_left (show 1≤n + 1 by omega)]
 obtain⟨m,hm,hm0⟩:=m
 conv=>whnf
 intro _
 conv=>whnf
 split
 ·rename_i hc
  have hc:m < n:=by simpa using hc
  conv=>whnf
  refine⟨rfl,⟨by simp,by simp;try omega⟩,?_⟩
  conv=>whnf
  refine⟨rfl,.own,⟨by simp,by simp,by simp,by simp;try omega⟩,?_⟩
  conv=>whnf
  refine⟨rfl,by simp[repRows_len x m n hm];try omega,⟨rfl,rfl,rfl⟩,by simp[repRows_len x m n hm];try omega,?_⟩
  conv=>whnf
  refine⟨by kernel_rfl,?_⟩
  conv=>whnf
  have hlen:min (List.take ((m:Int).toNat - 0) (List.drop (0 + 0) (repRows x m n))).length (n - (m:Int).toNat)=min m (n - m):=by
   simp[repRows_len x m n hm]
  refine⟨⟨m + min m (n - m),by omega,by omega⟩,Wk.of id [] ⟨.osl_of rfl (by omega) rfl,.int_of ?_,trivial⟩ (LeH.of ⟨⟨by omega,.inl ⟨by simp,_,rfl,LeB.eq_of ?_ (repRows_free _ _ _)⟩⟩,trivial⟩ (fun _ _ _ _ h=>h) (fun _ _=>rfl) (by omega) (by simp)),by simp only;omega⟩
  ·simp only[hlen]
   rw[wrap64]<;>omega
  ·simp only[hlen]
   have:=repRows_step x m n hm
   simpa using this
 ·rename_i hc
  have hc:m=n:=by simp at hc;omega
  subst hc
  conv=>whnf
  refine Ends.pure [0] (LeV.freeze_of (by simp) rfl (by simp[repRows_len]) (repRows_free _ _ _) ?_) (one_none rfl)
  simp[repRows]
def IsW (fr:Bool) (v:V) (l:List UInt32):Prop:=v=encW fr l∨(v=.snil∧l=[])
theorem IsW.free {fr:Bool} {v:V} {l:List UInt32} (h:IsW fr v l):Free v:=by
 rcases h with rfl|⟨rfl,_⟩
 ·exact encW_free _ _
 ·exact .snil
theorem IsW.cold {v:V} {l:List UInt32} (h:IsW false v l):Cold v:=by
 rcases h with rfl|⟨rfl,_⟩
 ·exact encW_cold _
 ·exact .snil
def pairV (fr:Bool) (l1:List UInt32) (v2:V):V:=.sl fr 1 [[encW fr l1],[v2]]
theorem pairV_free {fr:Bool} {l1 l2:List UInt32} {v2:V} (h:IsW fr v2 l2):Free (pairV fr l1 v2):=.sl (by
 intro x hx v hv
 simp at hx
 rcases hx with rfl|rfl
 ·simp at hv;subst hv;exact encW_free _ _
 ·simp at hv;subst hv;exact h.free)
def catLen (l1 l2:List UInt32):Nat→Nat
 | 0=>0
 | 1=>l1.length
 | _=>l1.length + l2.length
theorem zeros_free (n:Nat):∀r∈List.replicate n [V.int .u32 0],∀v∈r,Free v:=by
 intro r hr v hv
 rw[List.eq_of_mem_replicate hr]at hv;simp at hv;subst hv;exact .int
def catR (r0:List (List V)) (l1 l2:List UInt32):Nat→List (List V)
 | 0=>r0
 | 1=>rowsW l1
 | _=>rowsW (l1 ++ l2)
theorem concat_ok (fr:Bool) (l1 l2:List UInt32) (v2:V) (h2:IsW fr v2 l2) (n1:l1.length≤1000) (n2:l2.length≤1000):PCon prog 127 [pairV fr l1 v2] (encW true (l1 ++ l2)):=by
 refine callV_of (fn:=Go.Proofs.Tryz.f127) (body:=_) tab_ok mixed rfl rfl (by decide) (by simp[Go.Proofs.Tryz.f127]) ?_
 conv=>whnf
 intro _
 conv=>whnf
 refine vcg_loop tab_ok mixed (fun i:{i:Nat // i≤2}=>⟨[(0,pairV fr l1 v2),(3,cI (catLen l1 l2 i.1)),(9,pairV fr l1 v2),(10,.int .i64 2),(11,cI i.1)],[],0⟩) (fun i=>2 - i.1) ⟨0,by omega⟩ (Wk.of id [] ⟨.free (pairV_free h2),.int_of rfl,.free (pairV_free h2),.int_of rfl,.int_of rfl,trivial⟩ (LeH.nil (Nat.le_refl _) (fun b h=>by omega) (by simp))) (fun i=>?_)
 obtain⟨i,hi⟩:=i
 rcases i with _|_|_|i
 case succ.succ.succ=>omega
 case zero=>
  conv=>whnf
  refine⟨rfl,_,⟨by simp,rfl⟩,?_⟩
  conv=>whnf
  intro _
  conv=>whnf
  have hw:IntKind.i64.wrap (((catLen l1 l2 (⟨0,hi⟩:{i:Nat // i≤2}).val:Nat):Int)+ ((List.map (fun x=>[V.int .u32 x.toNat]) l1).length:Nat))=(catLen l1 l2 1:Nat):=by
   simp only[catLen,List.length_map];rw[wrap64]<;>omega
  split
  ·rename_i h;rw[hw]at h;simp at h;omega
  conv=>whnf
  exact⟨⟨1,by omega⟩,Wk.of id [] ⟨.free (pairV_free h2),.int_of hw,.free (pairV_free h2),.int_of rfl,.int_of rfl,trivial⟩ (LeH.nil (Nat.le_refl _) (fun b h=>by omega) (by simp)),by simp only;omega⟩
 case succ.zero=>
  conv=>whnf
  refine⟨rfl,_,⟨by simp,rfl⟩,?_⟩
  conv=>whnf
  have hw:∀n:Nat,n=l2.length→IntKind.i64.wrap (((catLen l1 l2 (⟨0 + 1,hi⟩:{i:Nat // i≤2}).val:Nat):Int)+ (n:Nat))=(catLen l1 l2 2:Nat):=by
   intro n hn
   simp only[catLen];rw[wrap64]<;>omega
  have h2':=h2
  rcases h2' with h|⟨h,h0⟩
  ·rw[h]
   conv=>whnf
   intro _
   conv=>whnf
   have hw:=hw ((List.map (fun x=>[V.int .u32 x.toNat]) l2).length) (by simp)
   split
   ·rename_i h;rw[hw]at h;simp at h;omega
   conv=>whnf
   exact⟨⟨2,by omega⟩,Wk.of id [] ⟨h▸.free (pairV_free h2),.int_of hw,h▸.free (pairV_free h2),.int_of rfl,.int_of rfl,trivial⟩ (LeH.nil (Nat.le_refl _) (fun b h=>by omega) (by simp)),by simp only;omega⟩
  ·rw[h]
   conv=>whnf
   have hw:IntKind.i64.wrap (((catLen l1 l2 (⟨0 + 1,hi⟩:{i:Nat // i≤2}).val:Nat):Int)+ 0)=(catLen l1 l2 2:Nat):=hw 0 (by simp[h0])
   split
   ·rename_i h;rw[hw]at h;simp at h;omega
   conv=>whnf
   exact⟨⟨2,by omega⟩,Wk.of id [] ⟨h▸.free (pairV_free h2),.int_of hw,h▸.free (pairV_free h2),.int_of rfl,.int_of rfl,trivial⟩ (LeH.nil (Nat.le_refl _) (fun b h=>by omega) (by simp)),by simp only;omega⟩
 case succ.succ.zero=>
  conv=>whnf
  refine callV_of (fn:=Go.Proofs.Tryz.f164) (body:=_) tab_ok mixed rfl rfl (by decide) (by simp[Go.Proofs.Tryz.f164]) ?_
  conv=>whnf
  have hn:IntKind.i64.wrap (((catLen l1 l2 (⟨0 + 1 + 1,hi⟩:{i:Nat // i≤2}).val:Nat):Int) - IntKind.i64.wrap (0 - 0))=(l1.length + l2.length:Nat):=by
   rw[show IntKind.i64.wrap (0 - 0)=0 by decide]
   simp only[catLen];rw[wrap64]<;>omega
  split
  ·rename_i hc
   conv=>whnf
   refine⟨⟨trivial,by simp,rfl,rfl⟩,?_⟩
   conv=>whnf
   refine⟨by rw[hn];exact⟨by decide,by omega,by simp[tab,tabOf,nth];omega,by omega⟩,?_⟩
   conv=>whnf
   refine⟨rfl,.own,⟨trivial,by simp,by simp,by simp⟩,?_⟩
   conv=>whnf
   refine⟨_,_,_,Ends.here,?_⟩
   conv=>whnf
   intro _
   conv=>whnf
   refine vcg_loop tab_ok mixed (fun i:{i:Nat // i≤2}=>⟨[(6,.osl 0 1 0 (catLen l1 l2 i.1)),(25,pairV fr l1 v2),(26,.int .i64 2),(27,cI i.1)],[(0,some (.arr true false 22 1 (catR (List.replicate (l1.length + l2.length) [.int .u32 0]) l1 l2 i.1)))],1⟩) (fun i=>2 - i.1) ⟨0,by omega⟩ (Wk.of id [] ⟨.osl_of rfl (by omega) rfl,.free (pairV_free h2),.int_of rfl,.int_of rfl,trivial⟩ (LeH.of ⟨⟨by omega,.inl ⟨by simp,_,rfl,(LeB.eq_of (by simp only[hn,Int.toNat_natCast];rfl) (by exact zeros_free _))⟩⟩,trivial⟩ (fun _ _ _ _ h=>h) (fun _ _=>rfl) (by omega) (by simp))) (fun i=>?_)
   obtain⟨i,hi⟩:=i
   rcases i with _|_|_|i
   case succ.succ.succ=>omega
   case zero=>
    conv=>whnf
    refine⟨rfl,_,⟨by simp,rfl⟩,?_⟩
    conv=>whnf
    refine⟨⟨rfl,rfl,rfl,rfl,by decide⟩,by simp[catLen],⟨by simp[tab,tabOf,nth,catLen];omega,by simp[catLen];omega⟩,?_⟩
    conv=>whnf
    refine⟨⟨1,by omega⟩,Wk.of (renOf [(0,1)]) [] ⟨.osl_of rfl (by omega) (by simp[catLen]),.free (pairV_free h2),.int_of rfl,.int_of rfl,trivial⟩ (LeH.of ⟨⟨by omega,.inl ⟨by simp,_,rfl,LeB.eq_of ?_ (by exact rowsW_free l1)⟩⟩,trivial⟩ (show ∀b∈[0],∀b'∈[0],renOf [(0,1)] b=renOf [(0,1)] b'→b=b' by decide) (show ∀b,b < 0→renOf [(0,1)] b=b by decide) (by omega) (by simp)),by simp only;omega⟩
    simp[catR,catLen]
   case succ.zero=>
    conv=>whnf
    refine⟨rfl,_,⟨by simp,rfl⟩,?_⟩
    conv=>whnf
    have h2':=h2
    rcases h2' with h|⟨h,h0⟩
    ·rw[h]
     conv=>whnf
     refine⟨⟨rfl,rfl,rfl,rfl,by decide⟩,by simp[catLen,catR],⟨by simp[tab,tabOf,nth,catLen];omega,by simp[catLen];omega⟩,?_⟩
     conv=>whnf
     refine⟨⟨2,by omega⟩,Wk.of (renOf [(0,1)]) [] ⟨.osl_of rfl (by omega) (by simp[catLen]),h▸.free (pairV_free h2),.int_of rfl,.int_of rfl,trivial⟩ (LeH.of ⟨⟨by omega,.inl ⟨by simp,_,rfl,LeB.eq_of ?_ (rowsW_free (l1 ++ l2))⟩⟩,trivial⟩ (show ∀b∈[0],∀b'∈[0],renOf [(0,1)] b=renOf [(0,1)] b'→b=b' by decide) (show ∀b,b < 0→renOf [(0,1)] b=b by decide) (by omega) (by simp)),by simp only;omega⟩
     simp[catR,catLen]
     exact List.take_of_length_le (by simp)
    ·rw[h]
     conv=>whnf
     refine⟨_,⟨rfl,rfl,rfl,rfl,by decide⟩,by simp[catLen,catR],⟨by simp[tab,tabOf,nth,catLen];omega,by simp[catLen];omega⟩,?_⟩
     conv=>whnf
     refine⟨⟨2,by omega⟩,Wk.of (renOf [(0,1)]) [] ⟨.osl_of rfl (by omega) (by simp[catLen,h0]),h▸.free (pairV_free h2),.int_of rfl,.int_of rfl,trivial⟩ (LeH.of ⟨⟨by omega,.inl ⟨by simp,_,rfl,LeB.eq_of ?_ (rowsW_free (l1 ++ l2))⟩⟩,trivial⟩ (show ∀b∈[0],∀b'∈[0],renOf [(0,1)] b=renOf [(0,1)] b'→b=b' by decide) (show ∀b,b < 0→renOf [(0,1)] b=b by decide) (by omega) (by simp)),by simp only;omega⟩
     simp[catR,catLen,h0]
     exact List.take_of_length_le (by simp)
   case succ.succ.zero=>
    conv=>whnf
    refine Ends.pure [0] (LeV.freeze_of (by simp) rfl (by simp[catLen,catR]) (rowsW_free (l1 ++ l2)) ?_) (one_none rfl)
    simp[catLen,catR]
    exact List.take_of_length_le (by simp)
  ·rename_i hc
   have h0:l1.length + l2.length=0:=by rw[hn]at hc;simp at hc;omega
   conv=>whnf
   refine⟨_,_,_,Ends.here,?_⟩
   conv=>whnf
   intro _
   conv=>whnf
   refine vcg_loop tab_ok mixed (fun i:{i:Nat // i≤2}=>⟨[(6,.osl 0 1 0 0),(25,pairV fr l1 v2),(26,.int .i64 2),(27,cI i.1)],[(0,some (.arr true false 22 1 []))],1⟩) (fun i=>2 - i.1) ⟨0,by omega⟩ (Wk.of id [] ⟨.osl0,.free (pairV_free h2),.int_of rfl,.int_of rfl,trivial⟩ (LeH.of ⟨⟨by omega,.inr ⟨by simp,_,_,_,_,rfl⟩⟩,trivial⟩ (fun _ _ _ _ h=>h) (fun _ _=>rfl) (by omega) (by simp))) (fun i=>?_)
   obtain rfl:l1=[]:=List.eq_nil_of_length_eq_zero (by omega)
   obtain rfl:l2=[]:=List.eq_nil_of_length_eq_zero (by omega)
   obtain⟨i,hi⟩:=i
   rcases i with _|_|_|i
   case succ.succ.succ=>omega
   case zero=>
    conv=>whnf
    refine⟨rfl,_,⟨by simp,rfl⟩,?_⟩
    conv=>whnf
    refine⟨⟨rfl,rfl,rfl,rfl,by decide⟩,by simp,⟨by simp[tab,tabOf,nth],by simp⟩,?_⟩
    conv=>whnf
    refine⟨⟨1,by omega⟩,Wk.of (renOf [(0,1)]) [] ⟨.osl_of rfl (by omega) (by simp),.free (pairV_free h2),.int_of rfl,.int_of rfl,trivial⟩ (LeH.of ⟨⟨by omega,.inl ⟨by simp,_,rfl,LeB.eq_of rfl (by intro x hx;simp at hx)⟩⟩,trivial⟩ (show ∀b∈[0],∀b'∈[0],renOf [(0,1)] b=renOf [(0,1)] b'→b=b' by decide) (show ∀b,b < 0→renOf [(0,1)] b=b by decide) (by omega) (by simp)),by simp only;omega⟩
   case succ.zero=>
    conv=>whnf
    refine⟨rfl,_,⟨by simp,rfl⟩,?_⟩
    conv=>whnf
    have h2':=h2
    rcases h2' with h|⟨h,h0⟩
    ·rw[h]
     conv=>whnf
     refine⟨⟨rfl,rfl,rfl,rfl,by decide⟩,by simp,⟨by simp[tab,tabOf,nth],by simp⟩,?_⟩
     conv=>whnf
     refine⟨⟨2,by omega⟩,Wk.of (renOf [(0,1)]) [] ⟨.osl_of rfl (by omega) (by simp),h▸.free (pairV_free h2),.int_of rfl,.int_of rfl,trivial⟩ (LeH.of ⟨⟨by omega,.inl ⟨by simp,_,rfl,LeB.eq_of rfl (by intro x hx;simp at hx)⟩⟩,trivial⟩ (show ∀b∈[0],∀b'∈[0],renOf [(0,1)] b=renOf [(0,1)] b'→b=b' by decide) (show ∀b,b < 0→renOf [(0,1)] b=b by decide) (by omega) (by simp)),by simp only;omega⟩
    ·rw[h]
     conv=>whnf
     refine⟨_,⟨rfl,rfl,rfl,rfl,by decide⟩,by simp,⟨by simp[tab,tabOf,nth],by simp⟩,?_⟩
     conv=>whnf
     refine⟨⟨2,by omega⟩,Wk.of (renOf [(0,1)]) [] ⟨.osl_of rfl (by omega) (by simp),h▸.free (pairV_free h2),.int_of rfl,.int_of rfl,trivial⟩ (LeH.of ⟨⟨by omega,.inl ⟨by simp,_,rfl,LeB.eq_of rfl (by intro x hx;simp at hx)⟩⟩,trivial⟩ (show ∀b∈[0],∀b'∈[0],renOf [(0,1)] b=renOf [(0,1)] b'→b=b' by decide) (show ∀b,b < 0→renOf [(0,1)] b=b by decide) (by omega) (by simp)),by simp only;omega⟩
   case succ.succ.zero=>
    conv=>whnf
    exact Ends.pure [0] (LeV.freeze_of (by simp) rfl (by simp) (by intro x hx;simp at hx) rfl) (one_none rfl)
end
section
open Go.Proofs.Tryz (prog)
attribute [local irreducible] CallV RoundV
def noA:Attrs:=⟨0,[],0,false,0,false,0,[]⟩
theorem LeV.noA {h:Heap} {nx nx':Nat} {ρ:Nat→Nat} {Z:List Nat} {fr:Bool}:LeV h nx ρ nx' Z (.agg zeroA) (encA fr noA):=
 .aggL ⟨.free .int,.snil_sl,.free .int,.free .bool,.free .int,.free .bool,.free .int,.snil_sl,trivial⟩
end
section
open Go.Proofs.Tryz (prog)
attribute [local irreducible] CallV RoundV
def nineA:Attrs:=⟨0,[],9,false,0,false,0,[]⟩
def nineV:V:=.agg [.int .u8 0,.snil,.int .u32 9,.bool false,.int .u32 0,.bool false,.int .u32 0,.snil]
theorem LeV.nineA {h:Heap} {nx nx':Nat} {ρ:Nat→Nat} {Z:List Nat} {fr:Bool}:LeV h nx ρ nx' Z nineV (encA fr nineA):=
 .aggL ⟨.free .int,.snil_sl,.int_of rfl,.free .bool,.free .int,.free .bool,.free .int,.snil_sl,trivial⟩
theorem Ends.ownNil {s:St} {sz:Nat} {fr ex:Bool} {ty:TypeId}:∃v1 h' nx',Ends 0 s .snil v1 h' nx'∧(v1=.osl 0 sz 0 0∧h'=[(0,some (.arr fr ex ty sz []))]∧nx'=1):=
 ⟨.osl 0 sz 0 0,[(0,some (.arr fr ex ty sz []))],1,Ends.of (fun _=>s.nx) [] .osl0 (LeH.of ⟨⟨by omega,.inr ⟨by simp,_,_,_,_,rfl⟩⟩,trivial⟩ (by simp) (fun b hb=>by omega) (by omega) (by simp)),rfl,rfl,rfl⟩
theorem cloneW_ok (fr:Bool) (v:V) (l:List UInt32) (h:IsW fr v l) (hl:l.length≤1000000):OCon prog 71 [v] true false 22 1 l.length (rowsW l):=by
 rcases h with rfl|⟨rfl,rfl⟩
 ·rcases l with _|⟨x,l⟩
  ·refine callV_of (fn:=Go.Proofs.Tryz.f71) (body:=_) tab_ok mixed rfl rfl (by decide) (by simp[Go.Proofs.Tryz.f71]) ?_
   conv=>whnf
   refine⟨?_,?_⟩
   ·conv=>whnf
    exact Ends.ownNil
   ·conv=>whnf
    refine⟨⟨rfl,rfl,rfl,rfl,by decide⟩,by simp,⟨by simp[tab,tabOf,nth],by simp⟩,?_⟩
    conv=>whnf
    exact Ends.own rfl (rowsW_free []) rfl rfl
  ·refine callV_of (fn:=Go.Proofs.Tryz.f71) (body:=_) tab_ok mixed rfl rfl (by decide) (by simp[Go.Proofs.Tryz.f71]) ?_
   conv=>whnf
   refine⟨⟨rfl,rfl,rfl,rfl,by decide⟩,by simp,⟨by simp[tab,tabOf,nth]at *;omega,by simp at *;omega⟩,?_⟩
   conv=>whnf
   exact Ends.own rfl (rowsW_free (x :: l)) (by simp) rfl
 ·refine callV_of (fn:=Go.Proofs.Tryz.f71) (body:=_) tab_ok mixed rfl rfl (by decide) (by simp[Go.Proofs.Tryz.f71]) ?_
  conv=>whnf
  refine⟨?_,?_⟩
  ·conv=>whnf
   exact Ends.ownNil
  ·conv=>whnf
   refine⟨_,⟨rfl,rfl,rfl,rfl,by decide⟩,by simp,⟨by simp[tab,tabOf,nth],by simp⟩,?_⟩
   conv=>whnf
   exact Ends.own rfl (rowsW_free []) rfl rfl
theorem Less.encW {l:List UInt32}:Less (encW true l) (encW false l):=.sl (by simp) rfl fun j v v' h1 h2=>by rw[h1]at h2;cases h2;exact Less.refl _
theorem Less.pair {l1:List UInt32} {v2 v2':V} (h:Less v2 v2'):Less (pairV true l1 v2) (pairV false l1 v2'):=.sl (by simp) rfl fun j v v' h1 h2=>by
 rcases j with _|_|j
 ·simp at h1 h2;subst h1;subst h2;exact .encW
 ·simp at h1 h2;subst h1;subst h2;exact h
 ·simp at h1
theorem legs_less:∀(l:List Leg) (j:Nat) (v v':V),(l.map (encLeg true)).flatten[j]? = some v→(l.map (encLeg false)).flatten[j]? = some v'→Less v v'
 | [],j,v,v',h1,h2=>by simp at h1
 | p :: l,j,v,v',h1,h2=>by
  rcases j with _|_|j
  ·simp[encLeg]at h1 h2;subst h1;subst h2;exact Less.refl _
  ·simp[encLeg]at h1 h2;subst h1;subst h2;exact .encW
  ·simp[encLeg]at h1 h2
   exact legs_less l j v v' (by simpa[encLeg]using h1) (by simpa[encLeg]using h2)
theorem Less.legs {l:List Leg}:Less (encLegs true l) (encLegs false l):=.sl (by simp) (by rw[List.map_map,List.map_map];rfl) (legs_less l)
theorem pairV_cold {l1 l2:List UInt32} {v2:V} (h:IsW false v2 l2):Cold (pairV false l1 v2):=.sl (by
 intro x hx v hv
 simp at hx
 rcases hx with rfl|rfl
 ·simp at hv;subst hv;exact encW_cold _
 ·simp at hv;subst hv;exact h.cold)
theorem encW_rows_free {vs:List V} (h:∀v∈vs,Free v):∀x∈vs.map (fun v=>[v]),∀v∈x,Free v:=by
 intro x hx v hv
 obtain⟨y,hy,rfl⟩:=List.mem_map.1 hx
 simp at hv;subst hv;exact h _ hy
end
section
open Go.Proofs.Tryz (prog)
attribute [local irreducible] CallV RoundV
theorem sameA_refl (a:Attrs):sameA a a=true:=by
 simp[sameA]
end
def legs (v:List UInt8):Option (List (UInt8 × List UInt32)):=
 match v with
 | []=>some []
 | [_]=>none
 | x :: n :: r=>if r.length < 4 * n.toNat then none else(legs (r.drop (4 * n.toNat))).map ((x,numsK r n.toNat) :: ·)
termination_by v.length
decreasing_by simp;omega
def kindOk (x:UInt8):Bool:=x == 1 || x == 2
def legOf (p:UInt8 × List UInt32):Leg:=⟨p.1 == 1,p.2⟩
def pathE (v:List UInt8):Int:=match legs v with
 | none=>294
 | some l=>if l.all (fun p=>kindOk p.1)&& pathOk (l.map legOf)then 0 else 296
def pathA (v:List UInt8):List Leg:=match legs v with
 | none=>[]
 | some l=>l.map legOf
def lowE (c:Nat) (v:List UInt8):Int:=
 if c=1 then(if v.length ≠ 1 then 294 else if 2 < (v.getD 0 0).toNat then 295 else 0)
 else if c=2 then pathE v
 else if c=3 then(if v.length ≠ 4 then 294 else if wordOf v=0 then 297 else 0)
 else if c=4 then(if v.length ≠ 4 then 294 else 0)
 else if c=5 then(if v.length ≠ 4 then 294 else 0)
 else(if v.length=0∨v.length % 4 ≠ 0 then 294 else if 16 < v.length / 4∨rises (numsK v (v.length / 4))=false then 298 else 0)
def lowA (c:Nat) (a:Attrs) (v:List UInt8):Attrs:=
 if c=1 then { a with origin:=v.getD 0 0 }
 else if c=2 then { a with path:=pathA v }
 else if c=3 then { a with next:=wordOf v }
 else if c=4 then { a with hasMed:=true,med:=wordOf v }
 else if c=5 then { a with hasPref:=true,pref:=wordOf v }
 else { a with tags:=numsK v (v.length / 4) }
def flagsI (c:Nat):Int:=if c=1 then 64 else if c=2 then 64 else if c=3 then 64 else if c=5 then 64 else if c=4 then 128 else if c=8 then 192 else -1
def byteN (b:List UInt8) (i:Nat):Nat:=(b.getD i 0).toNat
theorem byteN_lt (b:List UInt8) (i:Nat):byteN b i < 256:=(b.getD i 0).toNat_lt
def lngB (b:List UInt8):Bool:=byteN b 0 / 16 % 2 == 1
def numB (b:List UInt8):Nat:=if lngB b then 256 * byteN b 2 + byteN b 3 else byteN b 2
def atB (b:List UInt8):Nat:=if lngB b then 4 else 3
def headE (b:List UInt8) (last:Nat):Int:=
 if b.length < 3 then 290
 else if lngB b=true∧b.length < 4 then 290
 else if b.length < atB b + numB b then 290
 else if flagsI (byteN b 1) < 0 then 291
 else if(byteN b 0:Int) - (if lngB b then 16 else 0) ≠ flagsI (byteN b 1)∨lngB b ≠ decide (255 < numB b)then 292
 else if byteN b 1≤last then 293 else 0
def valB (b:List UInt8):List UInt8:=(b.drop (atB b)).take (numB b)
def restB (b:List UInt8):List UInt8:=b.drop (atB b + numB b)
theorem restB_lt {b:List UInt8} (h:b ≠ []):(restB b).length < b.length:=by
 have h0:=List.length_pos_iff.2 h
 have:3≤atB b:=by unfold atB;split<;>omega
 simp only[restB,List.length_drop]
 omega
def parseA (b:List UInt8) (last seen:Nat) (a:Attrs):Attrs × Int:=
 if hb:b=[]then(if seen=3 then(a,0)else(noA,299))
 else if headE b last ≠ 0 then(noA,headE b last)
 else if lowE (byteN b 1) (valB b) ≠ 0 then(noA,lowE (byteN b 1) (valB b))
 else parseA (restB b) (byteN b 1) (if byteN b 1≤3 then seen + 1 else seen) (lowA (byteN b 1) a (valB b))
termination_by b.length
decreasing_by exact restB_lt hb
theorem parseA_go {b:List UInt8} {last seen:Nat} {a:Attrs} (hb:b ≠ []) (h:headE b last=0) (h2:lowE (byteN b 1) (valB b)=0) :
  parseA b last seen a=parseA (restB b) (byteN b 1) (if byteN b 1≤3 then seen + 1 else seen) (lowA (byteN b 1) a (valB b)):=by
 rw[parseA,dif_neg hb,if_neg (by simp[h]),if_neg (by simp[h2])]
section
open Go.Proofs.Tryz (prog)
attribute [local irreducible] CallV RoundV
def oneE (b:List UInt8) (last:Nat):Int:=if headE b last ≠ 0 then headE b last else lowE (byteN b 1) (valB b)
theorem LeL.of_eq {h:Heap} {nx:Nat} {ρ:Nat→Nat} {nx':Nat} {Z:List Nat} {cs cs':List V} (e:cs=cs') (hf:∀v∈cs',Free v):LeL h nx ρ nx' Z cs cs':=by subst e;exact LeL.free hf
end
section
open Go.Proofs.Tryz (prog)
attribute [local irreducible] CallV RoundV
structure At (b:List UInt8) where
 rest:List UInt8
 last:Nat
 seen:Nat
 q:Bool
 a:Attrs
 law:parseA b 0 0 noA=parseA rest last seen a
 lim:last < 256
 cnt:seen + rest.length≤b.length
 nop:last < 2→q=false
 nil:q=false→a.path=[]
theorem oneE_zero {b:List UInt8} {last:Nat} (h:oneE b last=0):headE b last=0∧lowE (byteN b 1) (valB b)=0:=by
 unfold oneE at h
 split at h
 ·rename_i h1;exact absurd h h1
 ·rename_i h1;exact⟨by simpa using h1,h⟩
def At.next {b:List UInt8} (k:At b) (hb:k.rest ≠ []) (h:oneE k.rest k.last=0):At b where
 rest:=restB k.rest
 last:=byteN k.rest 1
 seen:=if byteN k.rest 1≤3 then k.seen + 1 else k.seen
 q:=k.q || byteN k.rest 1 == 2
 a:=lowA (byteN k.rest 1) k.a (valB k.rest)
 law:=k.law.trans (parseA_go hb (oneE_zero h).1 (oneE_zero h).2)
 lim:=byteN_lt _ _
 cnt:=by
  have:=restB_lt hb
  have:=k.cnt
  split<;>omega
 nop:=fun hl=>by
  have h1:¬ byteN k.rest 1≤k.last:=by
   have:=(oneE_zero h).1
   unfold headE at this
   intro hle
   rw[if_pos hle]at this
   revert this
   repeat' split
   all_goals decide
  have h2:k.q=false:=k.nop (by omega)
  have h3:(byteN k.rest 1 == 2)=false:=by simp;omega
  rw[h2,h3];rfl
 nil:=fun hq=>by
  have h1:k.q=false:=by cases hk:k.q with|false=>rfl|true=>rw[hk]at hq;cases hq
  have h2:byteN k.rest 1 ≠ 2:=by intro e;rw[h1,e]at hq;cases hq
  have h3:=k.nil h1
  unfold lowA
  repeat' split
  all_goals first|exact h3|contradiction
end
section
open Go.Proofs.Tryz (prog)
attribute [local irreducible] CallV RoundV
theorem rawA_len {a:Attrs} (hf:fewA a=true):(rawA a).length≤20000:=by
 obtain⟨hp,hpl,htl⟩:=fewA_out hf
 have hpb:=pathB_len hp
 have al:∀{f c:UInt8} {v:List UInt8},(attrB f c v).length≤4 + v.length:=fun {f c v}=>by unfold attrB;split<;>simp<;>omega
 have h1:=al (f:=64) (c:=1) (v:=[a.origin])
 have h2:=al (f:=64) (c:=2) (v:=pathB a.path)
 have h3:=al (f:=64) (c:=3) (v:=fourB a.next)
 have h4:(if a.hasMed then attrB 128 4 (fourB a.med)else []).length≤8:=by
  split
  ·exact al
  ·simp
 have h5:(if a.hasPref then attrB 64 5 (fourB a.pref)else []).length≤8:=by
  split
  ·exact al
  ·simp
 have h6:(if 0 < a.tags.length then attrB 192 8 (allB a.tags)else []).length≤244:=by
  split
  ·have:=al (f:=192) (c:=8) (v:=allB a.tags)
   rw[allB_len]at this
   omega
  ·simp
 have e3:(fourB a.next).length=4:=rfl
 have e1:([a.origin]:List UInt8).length=1:=rfl
 simp only[rawA,rawO,List.length_append]
 omega
end
section
open Go.Proofs.Tryz (prog)
attribute [local irreducible] CallV RoundV
theorem less_encW (fr:Bool) {l:List UInt32}:Less (encW fr l) (encW false l):=by
 cases fr with
 | true=>exact .encW
 | false=>exact .refl _
theorem rowsW_ff (b:List UInt32):∀x∈rowsW b,∀v∈x,Free v∧Fresh v:=by
 intro x hx v hv
 obtain⟨y,_,rfl⟩:=List.mem_map.1 hx
 simp at hv;subst hv;exact⟨.int,.int⟩
def ownA (a:Attrs) (b:Nat):V:=.agg [cB a.origin,.osl b 2 0 a.path.length,cW a.next,.bool a.hasMed,cW a.med,.bool a.hasPref,cW a.pref,encW true a.tags]
def ownT (a:Attrs) (b:Nat):V:=.agg [cB a.origin,encLegs true a.path,cW a.next,.bool a.hasMed,cW a.med,.bool a.hasPref,cW a.pref,.osl b 1 0 a.tags.length]
def rawC (a:Attrs):V:=.agg [cB a.origin,.osl 0 2 0 a.path.length,cW a.next,.bool a.hasMed,cW a.med,.bool a.hasPref,cW a.pref,.osl 1 1 0 a.tags.length]
theorem ownT_mov (a:Attrs):Mov (ownT a):=by
 refine Mov.agg (cs:=[fun _=>cB a.origin,fun _=>encLegs true a.path,fun _=>cW a.next,fun _=>.bool a.hasMed,fun _=>cW a.med,fun _=>.bool a.hasPref,fun _=>cW a.pref,fun b=>.osl b 1 0 a.tags.length]) ?_
 intro c hc
 simp only[List.mem_cons,List.not_mem_nil,or_false]at hc
 rcases hc with rfl|rfl|rfl|rfl|rfl|rfl|rfl|rfl
 ·exact .const .int .int
 ·exact .const (encLegs_free _ _) (encLegs_fresh _)
 ·exact .const .int .int
 ·exact .const .bool .bool
 ·exact .const .int .int
 ·exact .const .bool .bool
 ·exact .const .int .int
 ·exact .osl
theorem ownA_mov (a:Attrs):Mov (ownA a):=by
 refine Mov.agg (cs:=[fun _=>cB a.origin,fun b=>.osl b 2 0 a.path.length,fun _=>cW a.next,fun _=>.bool a.hasMed,fun _=>cW a.med,fun _=>.bool a.hasPref,fun _=>cW a.pref,fun _=>encW true a.tags]) ?_
 intro c hc
 simp only[List.mem_cons,List.not_mem_nil,or_false]at hc
 rcases hc with rfl|rfl|rfl|rfl|rfl|rfl|rfl|rfl
 ·exact .const .int .int
 ·exact .osl
 ·exact .const .int .int
 ·exact .const .bool .bool
 ·exact .const .int .int
 ·exact .const .bool .bool
 ·exact .const .int .int
 ·exact .const (encW_free _ _) (encW_fresh _)
theorem cloneL_ok (fr:Bool) (l:List Leg) (hl:l.length≤1000):OCon prog 70 [encLegs fr l] true false 91 2 l.length (l.map (encLeg fr)):=by
 rcases l with _|⟨x,l⟩
 ·refine callV_of (fn:=Go.Proofs.Tryz.f70) (body:=_) tab_ok mixed rfl rfl (by decide) (by simp[Go.Proofs.Tryz.f70]) ?_
  conv=>whnf
  refine⟨?_,?_⟩
  ·conv=>whnf
   exact Ends.ownNil
  ·conv=>whnf
   refine⟨⟨rfl,rfl,rfl,rfl,by decide⟩,by simp,⟨by simp[tab,tabOf,nth],by simp⟩,?_⟩
   conv=>whnf
   exact Ends.own rfl (by simp) rfl rfl
 ·refine callV_of (fn:=Go.Proofs.Tryz.f70) (body:=_) tab_ok mixed rfl rfl (by decide) (by simp[Go.Proofs.Tryz.f70]) ?_
  conv=>whnf
  refine⟨⟨rfl,rfl,rfl,rfl,by decide⟩,by simp,⟨by simp[tab,tabOf,nth]at *;omega,by simp at *;omega⟩,?_⟩
  conv=>whnf
  exact Ends.own rfl (rowsLegs_free fr (x :: l)) (by simp) rfl
theorem copy_raw (fr:Bool) (a:Attrs) (hpl:a.path.length≤1000) (hp:∀p∈a.path,p.ns.length≤1000) (htl:a.tags.length≤1000):CallV prog 38 [encA fr a] [] 0 (fun v h' nx'=>v=rawC a∧h'=[(0,some (.arr true false 91 2 (a.path.map (encLeg true)))),(1,some (.arr true false 22 1 (rowsW a.tags)))]∧nx'=2):=by
 have cell:∀{fr0:Bool} {x:Attrs},FreeB (.var true 35 (cellsA fr0 x)):=fun {fr0 x}=>cellsA_free fr0 x
 refine callV_of (fn:=Go.Proofs.Tryz.f38) (body:=_) tab_ok mixed rfl rfl (by decide) (by simp[Go.Proofs.Tryz.f38]) ?_
 conv=>whnf
 refine callV_own0 (nx:=2) (cloneL_ok fr a.path hpl) ⟨.free (encLegs_free _ _),trivial⟩ (rowsLegs_free _ _) ?_
 conv=>whnf
 intro _
 conv=>whnf
 refine vcg_loop tab_ok mixed (fun i:{i:Nat // i≤a.path.length}=>⟨[(1,.ptr 0 0),(2,.ptr 1 0),(3,.osl 2 2 0 a.path.length),(9,cI a.path.length),(10,cI i.1)],[(0,some (.var true 35 (cellsA fr a))),(1,some (.var true 35 zeroA)),(2,some (.arr true false 91 2 (rowsAt fr a.path i.1)))],3⟩) (fun i=>a.path.length - i.1) ⟨0,by omega⟩ ?_ (fun i=>?_)
 ·refine Wk.of id [] ⟨.ptr rfl (by omega),.ptr rfl (by omega),.osl rfl (by omega),.int_of rfl,.int_of rfl,trivial⟩ (LeH.of ⟨⟨by omega,.inl ⟨by simp,_,rfl,LeB.free cell⟩⟩,⟨by omega,.inl ⟨by simp,_,rfl,LeB.free zeroA_free⟩⟩,⟨by omega,.inl ⟨by simp,_,rfl,LeB.eq_of (by simp[rowsAt]) (rowsAt_free _ _ _)⟩⟩,trivial⟩ (fun _ _ _ _ h=>h) (fun _ _=>rfl) (by omega) (by simp))
 obtain⟨i,hi⟩:=i
 conv=>whnf
 split
 ·rename_i hc
  have hc:i < a.path.length:=by simpa using hc
  have hpi:=hp a.path[i] (List.getElem_mem hc)
  have hget:(rowsAt fr a.path i)[0 + (i:Int).toNat]? = some (encLeg fr a.path[i]):=by simpa using rowsAt_get hc
  conv=>whnf
  refine⟨rfl,⟨by simp only;omega,by simp only;omega⟩,?_⟩
  conv=>whnf
  refine⟨rfl,encLeg fr a.path[i],hget,?_⟩
  conv=>whnf
  refine callV_own (nx:=3) [] (cloneW_ok false _ a.path[i].ns (.inl rfl) (by omega)) ⟨.less (.free (encW_free fr _)) (less_encW fr),trivial⟩ (by intro v hv;simp at hv;subst hv;exact encW_cold _) (by simp) (rowsW_ff _) ?_
  conv=>whnf
  refine⟨rfl,⟨by simp only;omega,by simp only;omega⟩,?_⟩
  conv=>whnf
  refine⟨rfl,encLeg fr a.path[i],hget,?_⟩
  conv=>whnf
  refine⟨⟨i + 1,by omega⟩,Wk.of id [3] ⟨.ptr rfl (by omega),.ptr rfl (by omega),.osl rfl (by omega),.int_of rfl,.int_of (wrap64_succ hc (show a.path.length≤maxLen by unfold maxLen;omega)),trivial⟩ (LeH.of ⟨⟨by omega,.inl ⟨by simp,_,rfl,LeB.free cell⟩⟩,⟨by omega,.inl ⟨by simp,_,rfl,LeB.free zeroA_free⟩⟩,⟨by omega,.inl ⟨by simp,_,rfl,?_⟩⟩,trivial⟩ (fun _ _ _ _ h=>h) (fun _ _=>rfl) (by omega) (fun z hz=>by obtain rfl:=List.mem_singleton.1 hz;exact ne_none_of rfl)),by simp only;omega⟩
  simp only
  rw[rowsAt_succ hc]
  simp only[Nat.zero_add,Int.toNat_natCast]
  refine LeB.set (rowsAt_free _ _ _) ⟨.free .bool,?_,trivial⟩
  refine LeV.freeze_of (by simp) rfl (by simp) (rowsW_free _) ?_
  exact List.take_of_length_le (by simp)
 ·rename_i hc
  have hc:i=a.path.length:=by simp at hc;omega
  subst hc
  conv=>whnf
  refine callV_own (nx:=3) [] (cloneW_ok false _ a.tags (.inl rfl) (by omega)) ⟨.less (.free (encW_free fr _)) (less_encW fr),trivial⟩ (by intro v hv;simp at hv;subst hv;exact encW_cold _) (by simp) (rowsW_ff _) ?_
  conv=>whnf
  refine⟨rawC a,_,2,Ends.of (fun b=>b + 2) [] (.aggL ⟨.free .int,.osl rfl (by omega),.free .int,.free .bool,.free .int,.free .bool,.free .int,.osl rfl (by omega),trivial⟩) (LeH.of (h':=[(0,some (.arr true false 91 2 (a.path.map (encLeg true)))),(1,some (.arr true false 22 1 (rowsW a.tags)))]) ⟨⟨by omega,.inl ⟨by simp,_,rfl,LeB.eq_of ?_ (rowsLegs_free _ _)⟩⟩,⟨by omega,.inl ⟨by simp,_,rfl,LeB.free (rowsW_free _)⟩⟩,trivial⟩ (by simp) (fun b hb=>by omega) (by omega) (by simp)),rfl,rfl,rfl⟩
  simp only[rowsAt_all]
theorem copy_ok (fr:Bool) (a:Attrs) (hpl:a.path.length≤1000) (hp:∀p∈a.path,p.ns.length≤1000) (htl:a.tags.length≤1000):VCon prog 38 [encA fr a] (ownA a) (.arr true false 91 2 (a.path.map (encLeg true))):=
 (copy_raw fr a hpl hp htl).ends fun v h' nx' ⟨e1,e2,e3⟩=>by
  subst e1 e2 e3
  exact⟨ownA a 0,_,1,Ends.of id [1] (.aggL ⟨.free .int,.osl rfl (by omega),.free .int,.free .bool,.free .int,.free .bool,.free .int,LeV.freeze_of (by simp) rfl (by simp) (rowsW_free _) (List.take_of_length_le (by simp)),trivial⟩) (LeH.of (h':=[(0,some (.arr true false 91 2 (a.path.map (encLeg true))))]) ⟨⟨by omega,.inl ⟨by simp,_,rfl,LeB.free (rowsLegs_free _ _)⟩⟩,trivial⟩ (by simp) (fun b hb=>by omega) (by omega) (one_none rfl)),rfl,rfl,rfl⟩
theorem copyT_ok (fr:Bool) (a:Attrs) (hpl:a.path.length≤1000) (hp:∀p∈a.path,p.ns.length≤1000) (htl:a.tags.length≤1000):VCon prog 38 [encA fr a] (ownT a) (.arr true false 22 1 (rowsW a.tags)):=
 (copy_raw fr a hpl hp htl).ends fun v h' nx' ⟨e1,e2,e3⟩=>by
  subst e1 e2 e3
  exact⟨ownT a 0,_,1,Ends.of (fun _=>1) [0] (.aggL ⟨.free .int,LeV.freeze_of (by simp) rfl (by simp) (rowsLegs_free _ _) (List.take_of_length_le (by simp)),.free .int,.free .bool,.free .int,.free .bool,.free .int,.osl rfl (by omega),trivial⟩) (LeH.of (h':=[(0,some (.arr true false 22 1 (rowsW a.tags)))]) ⟨⟨by omega,.inl ⟨by simp,_,rfl,LeB.free (rowsW_free _)⟩⟩,trivial⟩ (by simp) (fun b hb=>by omega) (by omega) (one_none rfl)),rfl,rfl,rfl⟩
theorem ownA_freeze {h:Heap} {nx nx' b:Nat} {ρ:Nat→Nat} {Z:List Nat} {fr ex:Bool} {a:Attrs} (hz:b∈Z) (hb:hget h b=some (.arr true ex 91 2 (a.path.map (encLeg true)))):LeV h nx ρ nx' Z (ownA a b) (encA true a):=
 .aggL ⟨.free .int,LeV.freeze_of hz hb (by simp) (rowsLegs_free _ _) (List.take_of_length_le (by simp)),.free .int,.free .bool,.free .int,.free .bool,.free .int,.free (encW_free _ _),trivial⟩
theorem copy_pure (fr:Bool) (a:Attrs) (hpl:a.path.length≤1000) (hp:∀p∈a.path,p.ns.length≤1000) (htl:a.tags.length≤1000):PCon prog 38 [encA fr a] (encA true a):=
 (copy_ok fr a hpl hp htl).ends fun v h' nx' ⟨e1,e2,e3⟩=>by
  subst e1 e2 e3
  exact Ends.pure (s:=⟨[],[(0,some (.arr true false 91 2 (a.path.map (encLeg true))))],1⟩) [0] (ownA_freeze (fr:=true) (by simp) rfl) (by intro z hz;simp at hz;subst hz;simp[hget])
theorem systems_ok (fr:Bool) (a:Attrs) (hpl:a.path.length≤1000) (hp:∀p∈a.path,p.ns.length≤1000) (htl:a.tags.length≤1000):PCon prog 243 [encA fr a] (.fn (.func 254) [] [.iptr true [encLegs true a.path]]):=by
 refine callV_of (fn:=Go.Proofs.Tryz.f243) (body:=_) tab_ok mixed rfl rfl (by decide) (by simp[Go.Proofs.Tryz.f243]) ?_
 conv=>whnf
 refine callV_pure (copy_pure fr a hpl hp htl) ⟨.free (encA_free _ _),trivial⟩ ?_
 conv=>whnf
 refine Ends.pure [1] ?_ (one_none rfl)
 refine LeV.fnL trivial ⟨?_,trivial⟩
 exact LeV.freezeP (cells:=[encLegs true a.path]) (by simp) rfl (by intro v hv;simp at hv;subst hv;exact encLegs_free _ _)
end
section
open Go.Proofs.Tryz (prog)
attribute [local irreducible] CallV RoundV
def hasN (l:List UInt32) (x:UInt32):Bool:=l.any (· == x)
def hasA (l:List Leg) (x:UInt32):Bool:=l.any (fun p=>hasN p.ns x)
theorem hasN_succ {l:List UInt32} {x:UInt32} {k:Nat} (hk:k < l.length) (h:hasN (l.take k) x=false) (he:(l[k] == x)=false):hasN (l.take (k + 1)) x=false:=by
 unfold hasN at *
 rw[List.take_succ_eq_append_getElem hk,List.any_append,h]
 simpa using he
theorem hasA_succ {l:List Leg} {x:UInt32} {i:Nat} (hi:i < l.length) (h:hasA (l.take i) x=false) (he:hasN l[i].ns x=false):hasA (l.take (i + 1)) x=false:=by
 unfold hasA at *
 rw[List.take_succ_eq_append_getElem hi,List.any_append,h]
 simpa using he
theorem hasA_yes {l:List Leg} {x:UInt32} {i k:Nat} (hi:i < l.length) (hk:k < l[i].ns.length) (he:l[i].ns[k]=x):hasA l x=true:=by
 unfold hasA hasN
 rw[List.any_eq_true]
 exact⟨l[i],List.getElem_mem hi,List.any_eq_true.2 ⟨_,List.getElem_mem hk,by simp[he]⟩⟩
theorem has_ok (fr:Bool) (a:Attrs) (x:UInt32) (hpl:a.path.length≤1000) (hp:∀p∈a.path,p.ns.length≤1000) (htl:a.tags.length≤1000):PCon prog 227 [encA fr a,cW x] (.bool (hasA a.path x)):=by
 have fin:∀{s:St} {r:Bool},hasA a.path x=r→∃v1 h' nx',Ends 0 s (.bool r) v1 h' nx'∧(v1=.bool (hasA a.path x)∧h'=[]∧nx'=0):=fun h=>Ends.pure [] (.bool_of h.symm) (by simp)
 refine callV_of (fn:=Go.Proofs.Tryz.f227) (body:=_) tab_ok mixed rfl rfl (by decide) (by simp[Go.Proofs.Tryz.f227]) ?_
 conv=>whnf
 refine callV_pure (systems_ok fr a hpl hp htl) ⟨.free (encA_free _ _),trivial⟩ ?_
 conv=>whnf
 refine callV_loop [(3,.ptr 1 0),(4,.ptr 2 0)] ⟨rfl,rfl,trivial⟩ fun asg' body' hasg hbody=>?_
 refine callV_of (fn:=Go.Proofs.Tryz.f254) (body:=_) tab_ok mixed rfl rfl (by decide) (by simp[Go.Proofs.Tryz.f254]) ?_
 conv=>whnf
 intro _
 conv=>whnf
 refine vcg_loop tab_ok mixed (fun i:{i:Nat // i≤a.path.length∧hasA (a.path.take i) x=false}=>⟨[(0,.yld 3),(7,encLegs true a.path),(8,cI a.path.length),(9,cI i.1)],[(3,some (.loop 14 [(3,.ptr 1 0),(4,.ptr 2 0)] [9,10] asg' body' .ready none)),(1,some (.var true 22 [cW x])),(2,some (.var true 4 [.bool false]))],4⟩) (fun i=>a.path.length - i.1) ⟨0,by omega,rfl⟩ ?_ (fun i=>?_)
 ·exact Wk.of id [] ⟨.yld rfl (by omega),.free (encLegs_free _ _),.int_of (by simp),.int_of rfl,trivial⟩ (LeH.of ⟨⟨by omega,.inl ⟨by simp,_,rfl,rfl,rfl,rfl,rfl,rfl,rfl,.ptr rfl (by omega),.ptr rfl (by omega),trivial⟩⟩,⟨by omega,.inl ⟨by simp,_,rfl,id,rfl,.int_of rfl,trivial⟩⟩,⟨by omega,.inl ⟨by simp,_,rfl,id,rfl,.bool_of rfl,trivial⟩⟩,trivial⟩ (fun _ _ _ _ h=>h) (fun _ _=>rfl) (by omega) (by simp))
 obtain⟨i,hi,hn⟩:=i
 conv=>whnf
 split
 ·rename_i hc
  have hc:i < a.path.length:=by simpa using hc
  have hpi:=hp a.path[i] (List.getElem_mem hc)
  conv=>whnf
  refine ixK (idxL hc) ?_
  conv=>whnf
  intro _
  conv=>whnf
  refine vcg_loop tab_ok mixed (fun k:{k:Nat // k≤a.path[i].ns.length∧hasN (a.path[i].ns.take k) x=false}=>⟨[(0,.yld 3),(3,cI i),(7,encLegs true a.path),(8,cI a.path.length),(9,cI i),(15,encW true a.path[i].ns),(16,cI a.path[i].ns.length),(17,cI k.1)],[(3,some (.loop 14 [(3,.ptr 1 0),(4,.ptr 2 0)] [9,10] asg' body' .ready none)),(1,some (.var true 22 [cW x])),(2,some (.var true 4 [.bool false]))],5⟩) (fun k=>a.path[i].ns.length - k.1) ⟨0,by omega,rfl⟩ ?_ (fun k=>?_)
  ·exact Wk.of id [] ⟨.yld rfl (by omega),.int_of rfl,.free (encLegs_free _ _),.int_of rfl,.int_of rfl,.free (encW_free _ _),.int_of (by simp),.int_of rfl,trivial⟩ (LeH.of ⟨⟨by omega,.inl ⟨by simp,_,rfl,rfl,rfl,rfl,rfl,rfl,rfl,.ptr rfl (by omega),.ptr rfl (by omega),trivial⟩⟩,⟨by omega,.inl ⟨by simp,_,rfl,id,rfl,.int_of rfl,trivial⟩⟩,⟨by omega,.inl ⟨by simp,_,rfl,id,rfl,.bool_of rfl,trivial⟩⟩,trivial⟩ (fun _ _ _ _ h=>h) (fun _ _=>rfl) (by omega) (by simp))
  obtain⟨k,hk,hnk⟩:=k
  conv=>whnf
  split
  ·rename_i hck
   have hck:k < a.path[i].ns.length:=by simpa using hck
   conv=>whnf
   refine ixK (idxW hck) ?_
   conv=>whnf
   subst hasg hbody
   refine roundV_of tab_ok mixed rfl (by simp) (show 3 < 5 by omega) ?_
   conv=>whnf
   refine⟨rfl,?_⟩
   conv=>whnf
   split
   ·rename_i he
    conv=>whnf
    refine⟨rfl,?_⟩
    conv=>whnf
    refine⟨_,_,_,Ends.here,?_⟩
    conv=>whnf
    refine fin (hasA_yes hc hck ?_)
    refine UInt32.toNat_inj.1 ?_
    simp at he
    omega
   ·rename_i he
    have he:(a.path[i].ns[k] == x)=false:=by
     rw[beq_eq_false_iff_ne]
     intro e
     rw[e]at he
     simp at he
    conv=>whnf
    refine⟨rfl,?_⟩
    conv=>whnf
    refine⟨⟨k + 1,by omega,hasN_succ hck hnk he⟩,Wk.of id [] ⟨.yld rfl (by omega),.int_of rfl,.free (encLegs_free _ _),.int_of rfl,.int_of rfl,.free (encW_free _ _),.int_of rfl,.int_of (wrap64_succ hck (show a.path[i].ns.length≤maxLen by unfold maxLen;omega)),trivial⟩ (LeH.of ⟨⟨by omega,.inl ⟨by simp,_,rfl,rfl,rfl,rfl,rfl,rfl,rfl,.ptr rfl (by omega),.ptr rfl (by omega),trivial⟩⟩,⟨by omega,.inl ⟨by simp,_,rfl,id,rfl,.int_of rfl,trivial⟩⟩,⟨by omega,.inl ⟨by simp,_,rfl,id,rfl,.bool_of rfl,trivial⟩⟩,trivial⟩ (fun _ _ _ _ h=>h) (fun _ _=>rfl) (by omega) (by simp)),by simp only;omega⟩
  ·rename_i hck
   have hck:k=a.path[i].ns.length:=by simp at hck;omega
   conv=>whnf
   refine⟨⟨i + 1,by omega,?_⟩,Wk.of id [] ⟨.yld rfl (by omega),.free (encLegs_free _ _),.int_of rfl,.int_of (wrap64_succ hc (show a.path.length≤maxLen by unfold maxLen;omega)),trivial⟩ (LeH.of ⟨⟨by omega,.inl ⟨by simp,_,rfl,rfl,rfl,rfl,rfl,rfl,rfl,.ptr rfl (by omega),.ptr rfl (by omega),trivial⟩⟩,⟨by omega,.inl ⟨by simp,_,rfl,id,rfl,.int_of rfl,trivial⟩⟩,⟨by omega,.inl ⟨by simp,_,rfl,id,rfl,.bool_of rfl,trivial⟩⟩,trivial⟩ (fun _ _ _ _ h=>h) (fun _ _=>rfl) (by omega) (by simp)),by simp only;omega⟩
   rw[hck,List.take_length]at hnk
   exact hasA_succ hc hn hnk
 ·rename_i hc
  have hc:i=a.path.length:=by simp at hc;omega
  rw[hc,List.take_length]at hn
  conv=>whnf
  refine⟨_,_,_,Ends.here,?_⟩
  conv=>whnf
  exact fin hn
end
section
open Go.Proofs.Tryz (prog)
attribute [local irreducible] CallV RoundV
def Go (tn:Nat) (many:Int) (n:Nat):Prop:=tn=0→n=0∨(n:Int) < many
end
section
open Go.Proofs.Tryz (prog)
attribute [local irreducible] CallV RoundV
theorem w_eq {x y:UInt32}:((x.toNat:Int) == (y.toNat:Int))=(x == y):=by
 have:=u32_neq (x:=x) (y:=y)
 simpa[bne]using this
theorem b_eq {x y:UInt8}:((x.toNat:Int) == (y.toNat:Int))=(x == y):=by
 have:=u8_neq (x:=x) (y:=y)
 simpa[bne]using this
theorem take_step {α:Type} {l m:List α} {i:Nat} (h1:i < l.length) (h2:i < m.length) (hr:l.take i=m.take i) (he:l[i]=m[i]):l.take (i + 1)=m.take (i + 1):=by
 rw[List.take_succ_eq_append_getElem h1,List.take_succ_eq_append_getElem h2,hr,he]
theorem equal_ok (fr fr':Bool) (a b:List UInt32):PCon prog 100 [encW fr a,encW fr' b] (.bool (decide (a=b))):=by
 refine callV_of (fn:=Go.Proofs.Tryz.f100) (body:=_) tab_ok mixed rfl rfl (by decide) (by simp[Go.Proofs.Tryz.f100]) ?_
 conv=>whnf
 intro ha
 have ha:a.length≤maxLen:=by simpa[gd]using ha
 conv=>whnf
 intro hb
 conv=>whnf
 split
 ·rename_i hne
  conv=>whnf
  refine Ends.pure [] (.bool_of ?_) (by simp)
  symm
  rw[decide_eq_false_iff_not]
  rintro rfl
  simp at hne
 ·rename_i hne
  have hlen:a.length=b.length:=by simp at hne;omega
  conv=>whnf
  intro _
  conv=>whnf
  refine vcg_loop tab_ok mixed (fun i:{i:Nat // i≤a.length∧a.take i=b.take i}=>⟨[(0,encW fr a),(1,encW fr' b),(12,cI a.length),(13,.int .i64 i.1)],[],0⟩) (fun i=>a.length - i.1) ⟨0,by omega,rfl⟩ (Wk.of id [] ⟨.free (encW_free _ _),.free (encW_free _ _),.int_of (by simp),.int_of rfl,trivial⟩ (LeH.nil (Nat.le_refl _) (fun b h=>by omega) (by simp))) (fun i=>?_)
  obtain⟨i,hi,hr⟩:=i
  conv=>whnf
  split
  ·rename_i hc
   have hc:i < a.length:=by simpa using hc
   conv=>whnf
   refine ixK (idxW hc) ?_
   conv=>whnf
   refine ixK (idxW (show i < b.length by omega)) ?_
   conv=>whnf
   refine⟨by kernel_rfl,?_⟩
   conv=>whnf
   split
   ·rename_i h1
    conv=>whnf
    refine Ends.pure [] (.bool_of ?_) (by simp)
    symm
    rw[decide_eq_false_iff_not]
    rintro rfl
    simp at h1
   ·rename_i h1
    have h1:a[i]=b[i]:=by
     simp at h1
     exact UInt32.toNat_inj.1 (by omega)
    conv=>whnf
    exact⟨⟨i + 1,by omega,take_step hc (by omega) hr h1⟩,Wk.of id [] ⟨.free (encW_free _ _),.free (encW_free _ _),.int_of rfl,.int_of (wrap64_succ hc ha),trivial⟩ (LeH.nil (Nat.le_refl _) (fun b h=>by omega) (by simp)),by simp only;omega⟩
  ·rename_i hc
   have hc:i=a.length:=by simp at hc;omega
   subst hc
   rw[List.take_length,hlen,List.take_length]at hr
   conv=>whnf
   refine Ends.pure [] (.bool_of ?_) (by simp)
   simp[hr]
theorem same1_ok (fr fr':Bool) (p q:Leg):PCon prog 99 [.agg (encLeg fr p),.agg (encLeg fr' q)] (.bool (decide (p=q))):=by
 obtain⟨ps,pn⟩:=p
 obtain⟨qs,qn⟩:=q
 refine callV_of (fn:=Go.Proofs.Tryz.f99) (body:=_) tab_ok mixed rfl rfl (by decide) (by simp[Go.Proofs.Tryz.f99]) ?_
 conv=>whnf
 split
 ·rename_i h
  have h:ps=qs:=by simpa using h
  conv=>whnf
  refine callV_pure (equal_ok fr fr' pn qn) ⟨.free (encW_free _ _),.free (encW_free _ _),trivial⟩ ?_
  conv=>whnf
  refine Ends.pure [] (.bool_of ?_) (by simp)
  simp[h]
 ·rename_i h
  have h:ps ≠ qs:=by simpa using h
  conv=>whnf
  refine Ends.pure [] (.bool_of ?_) (by simp)
  simp[h]
theorem equalFunc_ok (fr fr':Bool) (a b:List Leg):PCon prog 101 [encLegs fr a,encLegs fr' b,.fn (.func 99) [] []] (.bool (decide (a=b))):=by
 refine callV_of (fn:=Go.Proofs.Tryz.f101) (body:=_) tab_ok mixed rfl rfl (by decide) (by simp[Go.Proofs.Tryz.f101]) ?_
 conv=>whnf
 intro ha
 have ha:a.length≤maxLen:=by simpa[gd]using ha
 conv=>whnf
 intro hb
 conv=>whnf
 split
 ·rename_i hne
  conv=>whnf
  refine Ends.pure [] (.bool_of ?_) (by simp)
  symm
  rw[decide_eq_false_iff_not]
  rintro rfl
  simp at hne
 ·rename_i hne
  have hlen:a.length=b.length:=by simp at hne;omega
  conv=>whnf
  intro _
  conv=>whnf
  refine vcg_loop tab_ok mixed (fun i:{i:Nat // i≤a.length∧a.take i=b.take i}=>⟨[(1,encLegs fr' b),(2,.fn (.func 99) [] []),(15,encLegs fr a),(16,cI a.length),(17,.int .i64 i.1)],[],0⟩) (fun i=>a.length - i.1) ⟨0,by omega,rfl⟩ (Wk.of id [] ⟨.free (encLegs_free _ _),.free (.fn (by simp) (by simp)),.free (encLegs_free _ _),.int_of (by simp),.int_of rfl,trivial⟩ (LeH.nil (Nat.le_refl _) (fun b h=>by omega) (by simp))) (fun i=>?_)
  obtain⟨i,hi,hr⟩:=i
  conv=>whnf
  split
  ·rename_i hc
   have hc:i < a.length:=by simpa using hc
   have hc':i < b.length:=by omega
   conv=>whnf
   refine ixK (idxL hc) ?_
   conv=>whnf
   refine ixK (idxL hc') ?_
   conv=>whnf
   refine callV_pure (same1_ok fr fr' a[i] b[i]) ⟨.free (.agg (encLeg_free _ _)),.free (.agg (encLeg_free _ _)),trivial⟩ ?_
   conv=>whnf
   split
   ·rename_i h1
    conv=>whnf
    refine Ends.pure [] (.bool_of ?_) (by simp)
    symm
    rw[decide_eq_false_iff_not]
    rintro rfl
    simp at h1
   ·rename_i h1
    have h1:a[i]=b[i]:=by simpa using h1
    conv=>whnf
    exact⟨⟨i + 1,by omega,take_step hc hc' hr h1⟩,Wk.of id [] ⟨.free (encLegs_free _ _),.free (.fn (by simp) (by simp)),.free (encLegs_free _ _),.int_of rfl,.int_of (wrap64_succ hc ha),trivial⟩ (LeH.nil (Nat.le_refl _) (fun b h=>by omega) (by simp)),by simp only;omega⟩
  ·rename_i hc
   have hc:i=a.length:=by simp at hc;omega
   subst hc
   rw[List.take_length,hlen,List.take_length]at hr
   conv=>whnf
   refine Ends.pure [] (.bool_of ?_) (by simp)
   simp[hr]
theorem same_ok (fr fr':Bool) (a b:Attrs):PCon prog 53 [encA fr a,encA fr' b] (.bool (sameA a b)):=by
 refine callV_of (fn:=Go.Proofs.Tryz.f53) (body:=_) tab_ok mixed rfl rfl (by decide) (by simp[Go.Proofs.Tryz.f53]) ?_
 have fin:∀{s:St} {r:Bool},sameA a b=r→∃v1 h' nx',Ends 0 s (.bool r) v1 h' nx'∧(v1=.bool (sameA a b)∧h'=[]∧nx'=0):=fun h=>Ends.pure [] (.bool_of h.symm) (by simp)
 conv=>whnf
 repeat' first
  | refine fin ?_
  | (split<;>(conv=>whnf))
  | (refine callV_pure (equalFunc_ok fr fr' a.path b.path) ⟨.free (encLegs_free _ _),.free (encLegs_free _ _),.free (.fn (by simp) (by simp)),trivial⟩ ?_;(conv=>whnf))
  | (refine callV_pure (equal_ok fr fr' a.tags b.tags) ⟨.free (encW_free _ _),.free (encW_free _ _),trivial⟩ ?_;(conv=>whnf))
 any_goals (clear fin;simp only[sameA,decide_eq_false_iff_not];rintro rfl;simp_all;done)
 clear fin
 simp only[w_eq,b_eq,beq_iff_eq,decide_eq_true_eq]at *
 obtain⟨o1,p1,n1,h1,m1,g1,q1,t1⟩:=a
 obtain⟨o2,p2,n2,h2,m2,g2,q2,t2⟩:=b
 simp_all[sameA]
end
instance {fr p}:FreeLI (encLeg fr p):=⟨⟨encLeg_free fr p⟩⟩
instance {fr} {l:List Leg}:FreeRI (l.map (encLeg fr)):=⟨⟨rowsLegs_free fr l⟩⟩
instance {fr l}:FreeI (encLegs fr l):=⟨⟨encLegs_free fr l⟩⟩
instance {fr a}:FreeLI (cellsA fr a):=⟨⟨cellsA_free fr a⟩⟩
instance {fr a}:FreeI (encA fr a):=⟨⟨encA_free fr a⟩⟩
instance:FreeLI zeroA:=⟨⟨zeroA_free⟩⟩
section
open Go.Proofs.Tryz (prog)
attribute [local irreducible] CallV RoundV
def prePath (l:List Leg) (x:UInt32) (n:Nat):List Leg:=match l with
 | ⟨false,ns⟩ :: r=>⟨false,List.replicate n x ++ ns⟩ :: r
 | l=>⟨false,List.replicate n x⟩ :: l
def badPre (a:Attrs) (x:UInt32) (n:Int):Bool:=!rightA a || x == 0 || decide (n < 0) || decide (8 < n)
def prepE (a:Attrs) (x:UInt32) (n:Int):Int:=if badPre a x n then 2 else if n=0 then 0 else if pathOk (prePath a.path x n.toNat)then 0 else 3
def prepA (a:Attrs) (x:UInt32) (n:Int):Attrs:=if prepE a x n ≠ 0 then noA else if n=0 then a else { a with path:=prePath a.path x n.toNat }
def prepV (fr:Bool) (a:Attrs) (x:UInt32) (n:Int):V:=.tup [encA fr (prepA a x n),.int .i64 (prepE a x n)]
theorem prepV_bad {fr:Bool} {a:Attrs} {x:UInt32} {n:Int} (h:badPre a x n=true):prepV fr a x n=.tup [encA fr noA,.int .i64 2]:=by simp[prepV,prepA,prepE,h]
theorem prepV_zero {fr:Bool} {a:Attrs} {x:UInt32} (h:badPre a x 0=false):prepV fr a x 0=.tup [encA fr a,.int .i64 0]:=by simp[prepV,prepA,prepE,h]
theorem prepV_long {fr:Bool} {a:Attrs} {x:UInt32} {n:Int} (h:badPre a x n=false) (h0:n ≠ 0) (hp:pathOk (prePath a.path x n.toNat)=false):prepV fr a x n=.tup [encA fr noA,.int .i64 3]:=by simp[prepV,prepA,prepE,h,h0,hp]
theorem prepV_ok {fr:Bool} {a:Attrs} {x:UInt32} {n:Int} (h:badPre a x n=false) (h0:n ≠ 0) (hp:pathOk (prePath a.path x n.toNat)=true):prepV fr a x n=.tup [encA fr { a with path:=prePath a.path x n.toNat },.int .i64 0]:=by simp[prepV,prepA,prepE,h,h0,hp]
theorem badPre_no {a:Attrs} {x:UInt32} {n:Int} (h:badPre a x n=false):rightA a=true∧x ≠ 0∧0≤n∧n≤8:=by simp[badPre]at h;exact⟨h.1.1.1,h.1.1.2,h.1.2,h.2⟩
theorem right_path {a:Attrs} (h:rightA a=true):pathOk a.path=true:=by simp[rightA]at h;exact h.1.1.1.1.1.2
theorem pathOk_all {l:List Leg} (h:pathOk l=true):l.length≤8∧∀p∈l,legOk p=true:=by simpa[pathOk]using h
theorem legOk_ns {p:Leg} (h:legOk p=true):1≤p.ns.length∧p.ns.length≤32∧(p.set=true→rises p.ns=true)∧∀x∈p.ns,x ≠ 0:=by
 simp only[legOk,Bool.and_eq_true,decide_eq_true_eq,Bool.or_eq_true,Bool.not_eq_true',List.all_eq_true,bne_iff_ne]at h
 refine⟨h.1.1.1,h.1.1.2,fun hs=>?_,h.2⟩
 rcases h.1.2 with h1|h1
 ·rw[hs]at h1;cases h1
 ·exact h1
end
section
open Go.Proofs.Tryz (prog)
attribute [local irreducible] CallV RoundV
def insT:List UInt32→UInt32→List UInt32
 | [],t=>[t]
 | y :: r,t=>if t < y then t :: y :: r else y :: insT r t
theorem insT_len {l:List UInt32} {t:UInt32}:(insT l t).length=l.length + 1:=by
 induction l with
 | nil=>rfl
 | cons x r ih=>simp only[insT];split<;>simp[ih]
def tagE (a:Attrs) (t:UInt32):Int:=if !rightA a then 2 else if a.tags.contains t then 0 else if 16 < a.tags.length + 1 then 3 else 0
def tagA (a:Attrs) (t:UInt32):Attrs:=if tagE a t ≠ 0 then noA else if a.tags.contains t then a else { a with tags:=insT a.tags t }
def tagV (fr:Bool) (a:Attrs) (t:UInt32):V:=.tup [encA fr (tagA a t),.int .i64 (tagE a t)]
theorem tagV_bad {fr:Bool} {a:Attrs} {t:UInt32} (h:rightA a=false):tagV fr a t=.tup [encA fr noA,.int .i64 2]:=by simp[tagV,tagA,tagE,h]
theorem tagV_in {fr:Bool} {a:Attrs} {t:UInt32} (h:rightA a=true) (ht:a.tags.contains t=true):tagV fr a t=.tup [encA fr a,.int .i64 0]:=by simp only[tagV,tagA,tagE,h,ht];rfl
theorem tagV_long {fr:Bool} {a:Attrs} {t:UInt32} (h:rightA a=true) (ht:a.tags.contains t=false) (hl:16≤a.tags.length):tagV fr a t=.tup [encA fr noA,.int .i64 3]:=by
 have:16 < a.tags.length + 1:=by omega
 simp only[tagV,tagA,tagE,h,ht,this];rfl
theorem tagV_new {fr:Bool} {a:Attrs} {t:UInt32} (h:rightA a=true) (ht:a.tags.contains t=false) (hl:a.tags.length < 16):tagV fr a t=.tup [encA fr { a with tags:=insT a.tags t },.int .i64 0]:=by
 have:¬ 16 < a.tags.length + 1:=by omega
 simp only[tagV,tagA,tagE,h,ht,this];rfl
end
section
open Go.Proofs.Tryz (prog)
attribute [local irreducible] CallV RoundV
theorem cmpNaN_ok (x:UInt32):PCon prog 175 [cW x] (.bool false):=by
 refine callV_of (fn:=Go.Proofs.Tryz.f175) (body:=_) tab_ok mixed rfl rfl (by decide) (by simp[Go.Proofs.Tryz.f175]) ?_
 conv=>whnf
 exact(Ends.pure [] (by repeat' (first|exact True.intro|exact .bool_of (by simp)|exact .A|exact LeL.fr rfl|refine .tupL ?_|refine .aggL ?_|refine⟨?_,?_⟩)) (by simp))
theorem slNaN_ok (x:UInt32):PCon prog 205 [cW x] (.bool false):=by
 refine callV_of (fn:=Go.Proofs.Tryz.f205) (body:=_) tab_ok mixed rfl rfl (by decide) (by simp[Go.Proofs.Tryz.f205]) ?_
 conv=>whnf
 exact(Ends.pure [] (by repeat' (first|exact True.intro|exact .bool_of (by simp)|exact .A|exact LeL.fr rfl|refine .tupL ?_|refine .aggL ?_|refine⟨?_,?_⟩)) (by simp))
theorem less32_ok (x y:UInt32):PCon prog 204 [cW x,cW y] (.bool (decide (x < y))):=by
 refine callV_of (fn:=Go.Proofs.Tryz.f204) (body:=_) tab_ok mixed rfl rfl (by decide) (by simp[Go.Proofs.Tryz.f204]) ?_
 conv=>whnf
 refine callV_pure (cmpNaN_ok x) ⟨.free .int,trivial⟩ ?_
 conv=>whnf
 exact(Ends.pure [] (by repeat' (first|exact True.intro|exact .bool_of (by rw[decide_eq_decide,UInt32.lt_iff_toNat_lt];omega)|exact .A|exact LeL.fr rfl|refine .tupL ?_|refine .aggL ?_|refine⟨?_,?_⟩)) (by simp))
theorem half (i j:Nat) (h:i + j < 1000000):IntKind.i64.wrap ((IntKind.u64.wrap (IntKind.i64.wrap ((i:Int)+ (j:Int)))).fdiv (2 ^ (min (Int.toNat 1) IntKind.u64.bits)))=(((i + j) / 2:Nat):Int):=by
 rw[wrap64 (n:=(i:Int)+ (j:Int)) (by omega) (by omega),wrapu64,Int.emod_eq_of_lt (by omega) (by omega)]
 rw[show min (Int.toNat 1) IntKind.u64.bits=1 by decide]
 rw[Int.fdiv_eq_ediv_of_nonneg _ (by decide),wrap64 (by omega) (by omega)]
 omega
theorem rises_lt:∀{l:List UInt32},rises l=true→∀{i j:Nat} (hi:i < j) (hj:j < l.length),l[i] < l[j]
 | [],_,i,j,_,hj=>by simp at hj
 | [a],_,i,j,hi,hj=>by simp at hj;omega
 | a :: b :: r,h,i,j,hi,hj=>by
  simp only[rises,Bool.and_eq_true,decide_eq_true_eq]at h
  cases j with
  | zero=>omega
  | succ j=>
   cases i with
   | zero=>
    cases j with
    | zero=>exact h.1
    | succ j=>
     have:=rises_lt h.2 (i:=0) (j:=j + 1) (by omega) (by simpa using hj)
     simp only[List.getElem_cons_zero,List.getElem_cons_succ]at this ⊢
     rw[UInt32.lt_iff_toNat_lt]at *
     have h1:=h.1
     omega
   | succ i=>
    have:=rises_lt h.2 (i:=i) (j:=j) (by omega) (by simpa using hj)
    simpa using this
structure Bs (l:List UInt32) (t:UInt32) where
 i:Nat
 j:Nat
 hij:i≤j
 hj:j≤l.length
 lo:∀(k:Nat) (hk:k < l.length),k < i→l[k] < t
 hi:∀(k:Nat) (hk:k < l.length),j≤k→¬ l[k] < t
theorem bs_ok (fr:Bool) (l:List UInt32) (t:UInt32) (hr:rises l=true) (hl:l.length≤1000):∃i,i≤l.length∧(∀(k:Nat) (hk:k < l.length),k < i→l[k] < t)∧(∀(k:Nat) (hk:k < l.length),i≤k→¬ l[k] < t) ∧
  PCon prog 160 [encW fr l,cW t] (.tup [cI i,.bool (l.contains t)]):=by
 -- the place
 have place:∀l:List UInt32,rises l=true→∃i,i≤l.length∧(∀(k:Nat) (hk:k < l.length),k < i→l[k] < t)∧(∀(k:Nat) (hk:k < l.length),i≤k→¬ l[k] < t):=by
  intro l hr
  refine⟨l.findIdx (fun y=>!decide (y < t)),List.findIdx_le_length,fun k hk hlt=>?_,fun k hk hle=>?_⟩
  ·have:=List.not_of_lt_findIdx hlt
   simpa using this
  ·have hlt:l.findIdx (fun y=>!decide (y < t)) < l.length:=by omega
   have h1:=List.findIdx_getElem (w:=hlt)
   simp only[Bool.not_eq_true',decide_eq_false_iff_not]at h1
   rcases Nat.lt_or_ge (l.findIdx (fun y=>!decide (y < t))) k with h2|h2
   ·have h3:=rises_lt hr h2 hk
    rw[UInt32.lt_iff_toNat_lt]at *
    omega
   ·have:l.findIdx (fun y=>!decide (y < t))=k:=by omega
    simp only[this]at h1
    exact h1
 obtain⟨p,hp,plo,phi⟩:=place l hr
 refine⟨p,hp,plo,phi,?_⟩
 refine callV_of (fn:=Go.Proofs.Tryz.f160) (body:=_) tab_ok mixed rfl rfl (by decide) (by simp[Go.Proofs.Tryz.f160]) ?_
 conv=>whnf
 intro _
 conv=>whnf
 refine vcg_loop tab_ok mixed (fun s:Bs l t=>⟨[(0,encW fr l),(1,cW t),(6,cI l.length),(7,cI s.i),(8,cI s.j)],[],0⟩) (fun s=>s.j - s.i) ⟨0,l.length,by omega,by omega,fun k hk h=>by omega,fun k hk h=>by omega⟩ (Wk.i (by repeat' (first|exact LHa|exact .int_of (by simp)|exact .A|exact LeL.fr rfl|exact LHb|refine Or.inl ⟨by simp,_,rfl,?_⟩|exact Or.inr ⟨by simp,_,_,_,_,rfl⟩|refine⟨rfl,rfl,rfl,rfl,rfl,rfl,?_⟩|refine⟨?_,?_⟩)) (by omega)) (fun s=>?_)
 obtain⟨i,j,hij,hj,lo,hi⟩:=s
 conv=>whnf
 split
 ·rename_i hc
  have hc:i < j:=by simpa using hc
  have hh:=half i j (by omega)
  have hm:(i + j) / 2 < l.length:=by omega
  conv=>whnf
  refine⟨by decide,?_⟩
  conv=>whnf
  simp only[hh]
  refine⟨trivial,_,⟨by first|omega|(simp only;omega),idxW hm⟩,?_⟩
  conv=>whnf
  refine callV_pure (less32_ok l[(i + j) / 2] t) ⟨.free .int,.free .int,trivial⟩ ?_
  conv=>whnf
  split
  ·rename_i h1
   have h1:l[(i + j) / 2] < t:=by simpa using h1
   conv=>whnf
   refine⟨⟨(i + j) / 2 + 1,j,by omega,hj,fun k hk hlt=>?_,hi⟩,(Wk.i (by repeat' (first|exact LHa|exact .int_of (wrap64_succ hm (show l.length≤maxLen by unfold maxLen;omega))|exact .A|exact LeL.fr rfl|exact LHb|refine Or.inl ⟨by simp,_,rfl,?_⟩|exact Or.inr ⟨by simp,_,_,_,_,rfl⟩|refine⟨rfl,rfl,rfl,rfl,rfl,rfl,?_⟩|refine⟨?_,?_⟩)) (by omega)),by simp only;omega⟩
   rcases Nat.lt_or_ge k ((i + j) / 2)with h2|h2
   ·have:=rises_lt hr h2 hm
    rw[UInt32.lt_iff_toNat_lt]at *
    omega
   ·obtain rfl:k=(i + j) / 2:=by omega
    exact h1
  ·rename_i h1
   have h1:¬ l[(i + j) / 2] < t:=by simpa using h1
   conv=>whnf
   refine⟨⟨i,(i + j) / 2,by omega,by omega,lo,fun k hk hle=>?_⟩,(Wk.i (by repeat' (first|exact LHa|exact .A|exact LeL.fr rfl|exact LHb|refine Or.inl ⟨by simp,_,rfl,?_⟩|exact Or.inr ⟨by simp,_,_,_,_,rfl⟩|refine⟨rfl,rfl,rfl,rfl,rfl,rfl,?_⟩|refine⟨?_,?_⟩)) (by omega)),by simp only;omega⟩
   rcases Nat.lt_or_ge ((i + j) / 2) k with h2|h2
   ·have:=rises_lt hr h2 hk
    rw[UInt32.lt_iff_toNat_lt]at *
    omega
   ·obtain rfl:k=(i + j) / 2:=by omega
    exact h1
 ·rename_i hc
  have hc:i=j:=by simp at hc;omega
  subst hc
  have hpi:i=p:=by
   rcases Nat.lt_trichotomy i p with h|h|h
   ·exact absurd (plo i (by omega) h) (hi i (by omega) (Nat.le_refl _))
   ·exact h
   ·exact absurd (lo p (by omega) h) (phi p (by omega) (Nat.le_refl _))
  subst hpi
  have hcont:l.contains t=true↔∃h:i < l.length,l[i]=t:=by
   rw[List.contains_iff_mem]
   constructor
   ·intro hm
    obtain⟨k,hk,e⟩:=List.mem_iff_getElem.1 hm
    rcases Nat.lt_trichotomy k i with h|h|h
    ·have:=lo k hk h
     rw[e]at this
     exact absurd this (UInt32.lt_irrefl _)
    ·subst h;exact⟨hk,e⟩
    ·have h1:=rises_lt hr h hk
     rw[e]at h1
     exact absurd h1 (hi i (by omega) (Nat.le_refl _))
   ·rintro ⟨h,e⟩
    exact List.mem_iff_getElem.2 ⟨i,h,e⟩
  conv=>whnf
  cases hin:decide ((i:Int) < (l.length:Int))with
  | true=>
   have hin:i < l.length:=by simpa using hin
   conv=>whnf
   refine ixK (idxW hin) ?_
   conv=>whnf
   cases heq:((l[i].toNat:Int) == (t.toNat:Int))with
   | true=>
    have heq:l[i]=t:=by simp at heq;exact UInt32.toNat_inj.1 (by omega)
    conv=>whnf
    exact(Ends.pure [] (by repeat' (first|exact True.intro|exact .int_of rfl|exact .bool_of (by symm;rw[hcont];exact⟨hin,heq⟩)|exact .A|exact LeL.fr rfl|refine .tupL ?_|refine .aggL ?_|refine⟨?_,?_⟩)) (by simp))
   | false=>
    have heq:l[i] ≠ t:=by intro e;rw[e]at heq;simp at heq
    conv=>whnf
    refine ixK (idxW hin) ?_
    conv=>whnf
    refine callV_pure (slNaN_ok l[i]) ⟨.free .int,trivial⟩ ?_
    conv=>whnf
    exact(Ends.pure [] (by repeat' (first|exact True.intro|exact .int_of rfl|exact .bool_of (by symm;rw[← Bool.not_eq_true,hcont];rintro ⟨_,e⟩;exact heq e)|exact .A|exact LeL.fr rfl|refine .tupL ?_|refine .aggL ?_|refine⟨?_,?_⟩)) (by simp))
  | false=>
   have hin:¬ i < l.length:=by simpa using hin
   conv=>whnf
   exact(Ends.pure [] (by repeat' (first|exact True.intro|exact .int_of rfl|exact .bool_of (by symm;rw[← Bool.not_eq_true,hcont];rintro ⟨h,_⟩;exact hin h)|exact .A|exact LeL.fr rfl|refine .tupL ?_|refine .aggL ?_|refine⟨?_,?_⟩)) (by simp))
end
section
open Go.Proofs.Tryz (prog)
attribute [local irreducible] CallV RoundV
theorem cp_mid {α:Type} {P Q S ys R:List α} {row n:Nat} (hR:R=P ++ Q ++ S) (hq:ys.length=Q.length) (hn:ys.length≤n) (hr:row=P.length):R.take row ++ ys.take n ++ R.drop (row + min ys.length n)=P ++ ys ++ S:=by
 subst hr;subst hR
 rw[List.take_of_length_le hn,Nat.min_eq_left hn,List.append_assoc P Q S,List.take_left,hq,← List.drop_drop,List.drop_left,List.drop_left]
theorem cp_cut {α:Type} {P Q S ys R:List α} {row n:Nat} (hR:R=P ++ Q ++ S) (hq:n=Q.length) (hn:n≤ys.length) (hr:row=P.length):R.take row ++ ys.take n ++ R.drop (row + min ys.length n)=P ++ ys.take n ++ S:=by
 subst hr;subst hR
 rw[Nat.min_eq_right hn,List.append_assoc P Q S,List.take_left,hq,← List.drop_drop,List.drop_left,List.drop_left]
theorem ins_grow {α:Type} {rows:List α} {x z:α} {i:Nat} (he:i < rows.length) :
   List.take (i + 1)
      (List.take i (List.take i rows ++ List.replicate (rows.length + 1 - i) z)++
        List.take (i + (rows.length + 1 - i) - i) [x]++
       List.drop (i + min [x].length (i + (rows.length + 1 - i) - i))
        (List.take i rows ++ List.replicate (rows.length + 1 - i) z))++
     List.take (i + (rows.length + 1 - i) - (i + 1)) (List.take (rows.length - i) (List.drop i rows))++
    List.drop
     (i + 1 + min (List.take (rows.length - i) (List.drop i rows)).length (i + (rows.length + 1 - i) - (i + 1)))
     (List.take i (List.take i rows ++ List.replicate (rows.length + 1 - i) z)++
       List.take (i + (rows.length + 1 - i) - i) [x]++
      List.drop (i + min [x].length (i + (rows.length + 1 - i) - i))
       (List.take i rows ++ List.replicate (rows.length + 1 - i) z))=List.take i rows ++ [x]++ List.drop i rows:=by
 have h1:rows.length + 1 - i=(rows.length - i)+ 1:=by omega
 rw[cp_mid (P:=rows.take i) (Q:=[z]) (S:=List.replicate (rows.length - i) z) (ys:=[x]) (R:=List.take i rows ++ List.replicate (rows.length + 1 - i) z) (n:=i + (rows.length + 1 - i) - i) (row:=i) (by rw[h1,List.replicate_succ];simp) rfl (by simp;omega) (by simp;omega)]
 rw[List.take_of_length_le (l:=rows.drop i) (by simp)]
 rw[cp_mid (P:=rows.take i ++ [x]) (Q:=List.replicate (rows.length - i) z) (S:=[]) (ys:=rows.drop i) (R:=rows.take i ++ [x]++ List.replicate (rows.length - i) z) (n:=i + (rows.length + 1 - i) - (i + 1)) (row:=i + 1) (by simp) (by simp) (by simp;omega) (by simp;omega)]
 rw[List.append_nil]
theorem ins_shift {α:Type} {rows:List α} {x z:α} {i k:Nat} (he:i < rows.length) (hk:0 < k) :
   List.take i
      (List.take (i + 1) (rows ++ List.replicate k z)++
        List.take (rows.length + 1 - (i + 1))
         (List.take (rows.length + 1 - i) (List.drop i (rows ++ List.replicate k z)))++
       List.drop
        (i + 1 +
         min
          (List.take (rows.length + 1 - i)
            (List.drop i (rows ++ List.replicate k z))).length
          (rows.length + 1 - (i + 1)))
        (rows ++ List.replicate k z))++
     List.take (rows.length + 1 - i) [x]++
    List.drop (i + min [x].length (rows.length + 1 - i))
     (List.take (i + 1) (rows ++ List.replicate k z)++
       List.take (rows.length + 1 - (i + 1))
        (List.take (rows.length + 1 - i) (List.drop i (rows ++ List.replicate k z)))++
      List.drop
       (i + 1 +
        min
         (List.take (rows.length + 1 - i)
           (List.drop i (rows ++ List.replicate k z))).length
         (rows.length + 1 - (i + 1)))
       (rows ++ List.replicate k z))=List.take i rows ++ [x]++ List.drop i rows ++ List.replicate (k - 1) z:=by
 obtain⟨k,rfl⟩:∃j,k=j + 1:=⟨k - 1,by omega⟩
 have hd:rows.drop i=rows[i] :: rows.drop (i + 1):=List.drop_eq_getElem_cons he
 have hys:List.take (rows.length + 1 - i) (List.drop i (rows ++ List.replicate (k + 1) z))=rows.drop i ++ [z]:=by
  rw[List.drop_append_of_le_length (by omega),List.take_append,List.take_of_length_le (by simp;omega),List.length_drop,show rows.length + 1 - i - (rows.length - i)=1 by omega,List.replicate_succ]
  rfl
 rw[hys]
 rw[cp_cut (P:=rows.take (i + 1)) (Q:=rows.drop (i + 1)++ [z]) (S:=List.replicate k z) (ys:=rows.drop i ++ [z]) (R:=rows ++ List.replicate (k + 1) z) (n:=rows.length + 1 - (i + 1)) (row:=i + 1) (by rw[← List.append_assoc,List.take_append_drop,List.replicate_succ];simp) (by simp;omega) (by simp) (by simp;omega)]
 rw[List.take_append_of_le_length (l₁:=rows.drop i) (l₂:=[z]) (by simp),List.take_of_length_le (l:=rows.drop i) (by simp)]
 rw[cp_mid (P:=rows.take i) (Q:=[rows[i]]) (S:=rows.drop i ++ List.replicate k z) (ys:=[x]) (R:=rows.take (i + 1)++ rows.drop i ++ List.replicate k z) (n:=rows.length + 1 - i) (row:=i) (by rw[List.take_succ_eq_append_getElem he];simp) rfl (by simp;omega) (by simp;omega)]
 simp
theorem insRows_free {rows:List (List V)} {x:List V} {i:Nat} (hf:∀r∈rows,∀v∈r,Free v) (hx:∀v∈x,Free v):∀r∈rows.take i ++ [x]++ rows.drop i,∀v∈r,Free v:=by
 intro r hr v hv
 simp only[List.mem_append,List.mem_singleton]at hr
 rcases hr with(h|rfl)|h
 ·exact hf r (List.mem_of_mem_take h) v hv
 ·exact hx v hv
 ·exact hf r (List.mem_of_mem_drop h) v hv
theorem insRows_free' {rows:List (List V)} {x:List V} {i k n:Nat} (hf:∀r∈rows,∀v∈r,Free v) (hx:∀v∈x,Free v):∀r∈rows.take i ++ [x]++ rows.drop i ++ List.replicate k (List.replicate n .any),∀v∈r,Free v:=by
 intro r hr v hv
 rcases List.mem_append.1 hr with h|h
 ·exact insRows_free hf hx r h v hv
 ·rw[List.eq_of_mem_replicate h]at hv
  rw[List.eq_of_mem_replicate hv]
  exact .any
theorem insertW_ok (rows:List (List V)) (x:List V) (hf:∀r∈rows,∀v∈r,Free v) (hx:∀v∈x,Free v) (ex:Bool) (hex:rows ≠ []→ex=true) (i k:Nat) (hl:rows.length≤1000) (hi:i≤rows.length) :
  CallV prog 161 [.osl 0 1 0 rows.length,cI i,.osl 1 1 0 1] [(0,some (.arr true ex 22 1 (rows ++ List.replicate k (List.replicate 1 .any)))),(1,some (.arr true true 22 1 [x]))] 2
   (fun v h' nx'=>∃k',v=.osl 2 1 0 (rows.length + 1)∧h'=[(2,some (.arr true false 22 1 (rows.take i ++ [x]++ rows.drop i ++ List.replicate k' (List.replicate 1 .any))))]∧nx'=3):=by
 refine callV_of (fn:=Go.Proofs.Tryz.f161) (body:=_) tab_ok mixed rfl rfl (by decide) (by simp[Go.Proofs.Tryz.f161]) ?_
 conv=>whnf
 refine⟨rfl,⟨by simp,by simp;omega⟩,?_⟩
 conv=>whnf
 intro _
 conv=>whnf
 intro _
 conv=>whnf
 split
 ·rename_i he
  have he:i=rows.length:=by simp at he;omega
  subst he
  conv=>whnf
  refine⟨rfl,by simp,⟨rfl,rfl,rfl,rfl,by decide⟩,by simp,⟨by simp[tab,tabOf,nth];omega,by simp;omega⟩,?_⟩
  conv=>whnf
  refine⟨_,_,_,?_,0,rfl,rfl,rfl⟩
  exact(Ends.all id [] (by repeat' (first|exact LHa|exact .osl_of rfl (by omega) (by simp)|exact LeB.eq_of (by simp[List.take_of_length_le]) (insRows_free' hf hx)|exact .A|exact LeL.fr rfl|exact LHb|refine Or.inl ⟨by simp,_,rfl,?_⟩|exact Or.inr ⟨by simp,_,_,_,_,rfl⟩|refine⟨rfl,rfl,rfl,rfl,rfl,rfl,?_⟩|refine⟨?_,?_⟩)) (fun _ _ _ _ h=>h) (fun _ _=>rfl) (by omega) (by simp))
 ·rename_i he
  have he:i < rows.length:=by simp at he;omega
  obtain rfl:=hex (fun e=>by subst e;simp at he)
  conv=>whnf
  refine⟨⟨rfl,by decide,by omega,rfl⟩,?_⟩
  conv=>whnf
  have hw1:IntKind.i64.wrap ((rows.length:Int)+ ((1:Nat):Int))=((rows.length + 1:Nat):Int):=by rw[wrap64]<;>omega
  have hw2:IntKind.i64.wrap (IntKind.i64.wrap ((rows.length:Int)+ ((1:Nat):Int)) - (i:Int))=((rows.length + 1 - i:Nat):Int):=by rw[hw1,wrap64]<;>omega
  have hw3:IntKind.i64.wrap ((i:Int)+ ((1:Nat):Int))=((i + 1:Nat):Int):=by rw[wrap64]<;>omega
  split
  ·rename_i hc
   have hk0:k=0:=by rw[hw1]at hc;simp at hc;omega
   subst hk0
   conv=>whnf
   refine⟨rfl,.own,⟨trivial,by simp,by simp,by simp;omega⟩,?_⟩
   conv=>whnf
   refine⟨⟨rfl,rfl,rfl,by decide,by rw[hw2];omega⟩,by simp;omega,⟨by rw[hw2];simp[tab,tabOf,nth];omega,by rw[hw2];simp;omega⟩,true,⟨rfl,by rw[hw2];simp;omega⟩,?_⟩
   conv=>whnf
   refine⟨rfl,⟨by simp,by simp⟩,?_⟩
   conv=>whnf
   refine⟨rfl,by simp,⟨rfl,rfl,rfl⟩,by rw[hw2];simp;omega,?_⟩
   conv=>whnf
   refine⟨rfl,⟨by rw[hw3];omega,by rw[hw2,hw3];simp;omega⟩,?_⟩
   conv=>whnf
   refine⟨rfl,⟨by simp,by simp;omega⟩,?_⟩
   conv=>whnf
   refine⟨rfl,by simp,⟨rfl,rfl,rfl⟩,by rw[hw2,hw3];simp;omega,?_⟩
   conv=>whnf
   refine⟨by kernel_rfl,?_⟩
   conv=>whnf
   refine⟨_,_,_,?_,0,rfl,rfl,rfl⟩
   refine(Ends.all id [] (by repeat' (first|exact LHa|exact .osl_of rfl (by omega) (by rw[hw2];simp;omega)|exact⟨id,(fun h=>by cases h),rfl,rfl,LeR.out (LeR.of_eq (by simp only[hw2,hw3,Int.toNat_natCast,Nat.zero_add,Nat.sub_zero,List.drop_zero,List.take_succ_cons,List.take_zero,List.replicate_zero,List.append_nil];exact ins_grow he) (LeR.free (insRows_free' hf hx)))⟩|exact .A|exact LeL.fr rfl|exact LHb|refine Or.inl ⟨by simp,_,rfl,?_⟩|exact Or.inr ⟨by simp,_,_,_,_,rfl⟩|refine⟨rfl,rfl,rfl,rfl,rfl,rfl,?_⟩|refine⟨?_,?_⟩)) (fun _ _ _ _ h=>h) (fun _ _=>rfl) (by omega) (by simp))
  ·rename_i hc
   have hk0:0 < k:=by rw[hw1]at hc;simp at hc;omega
   conv=>whnf
   refine⟨rfl,.past,rfl,by decide,by omega,⟨trivial,by rw[hw1];omega,rfl,by rw[hw1];simp;omega⟩,?_⟩
   conv=>whnf
   refine⟨rfl,⟨by rw[hw3];omega,by rw[hw1,hw3];simp;omega⟩,?_⟩
   conv=>whnf
   refine callV_overlaps tab_ok (t:=33) (r:=4) (e:=22) rfl (by simp[tab,tabOf,nth]) (by decide) rfl rfl rfl rfl rfl rfl rfl (by decide) ?_
   conv=>whnf
   refine⟨rfl,⟨by rw[hw3];omega,by rw[hw1,hw3];simp;omega⟩,?_⟩
   conv=>whnf
   refine⟨rfl,⟨by simp,by rw[hw1];simp;omega⟩,?_⟩
   conv=>whnf
   refine⟨rfl,by rw[hw1];simp;omega,⟨rfl,rfl,rfl⟩,by rw[hw1,hw3];simp;omega,?_⟩
   conv=>whnf
   refine⟨by kernel_rfl,?_⟩
   conv=>whnf
   refine⟨rfl,⟨by simp,by rw[hw1];simp;omega⟩,?_⟩
   conv=>whnf
   refine⟨rfl,by simp,⟨rfl,rfl,rfl⟩,by rw[hw1];simp;omega,?_⟩
   conv=>whnf
   refine⟨_,_,_,?_,k - 1,rfl,rfl,rfl⟩
   refine(Ends.all (renOf [(2,0)]) [] (by repeat' (first|exact LHa|exact .osl_of rfl (by omega) (by rw[hw1];simp)|exact⟨id,(fun h=>by cases h),rfl,rfl,LeR.out (LeR.of_eq (by simp only[hw1,hw3,Int.toNat_natCast,Nat.zero_add,Nat.sub_zero,List.drop_zero,List.take_succ_cons,List.take_zero,List.replicate_zero,List.append_nil];exact ins_shift he hk0) (LeR.free (insRows_free' hf hx)))⟩|exact .A|exact LeL.fr rfl|exact LHb|refine Or.inl ⟨by simp,_,rfl,?_⟩|exact Or.inr ⟨by simp,_,_,_,_,rfl⟩|refine⟨rfl,rfl,rfl,rfl,rfl,rfl,?_⟩|refine⟨?_,?_⟩)) (show ∀b∈([2]:List Nat),∀b'∈([2]:List Nat),(renOf [(2,0)]) b=(renOf [(2,0)]) b'→b=b' by decide) (show ∀b,b < 2→(renOf [(2,0)]) b=b by decide) (by omega) (by simp))
theorem insertL_ok (rows:List (List V)) (x:List V) (hf:∀r∈rows,∀v∈r,Free v) (hx:∀v∈x,Free v) (ex:Bool) (hex:rows ≠ []→ex=true) (i k:Nat) (hl:rows.length≤1000) (hi:i≤rows.length) :
  CallV prog 126 [.osl 0 2 0 rows.length,cI i,.osl 1 2 0 1] [(0,some (.arr true ex 91 2 (rows ++ List.replicate k (List.replicate 2 .any)))),(1,some (.arr true true 91 2 [x]))] 2
   (fun v h' nx'=>∃k',v=.osl 2 2 0 (rows.length + 1)∧h'=[(2,some (.arr true false 91 2 (rows.take i ++ [x]++ rows.drop i ++ List.replicate k' (List.replicate 2 .any))))]∧nx'=3):=by
 refine callV_of (fn:=Go.Proofs.Tryz.f126) (body:=_) tab_ok mixed rfl rfl (by decide) (by simp[Go.Proofs.Tryz.f126]) ?_
 conv=>whnf
 refine⟨rfl,⟨by simp,by simp;omega⟩,?_⟩
 conv=>whnf
 intro _
 conv=>whnf
 intro _
 conv=>whnf
 split
 ·rename_i he
  have he:i=rows.length:=by simp at he;omega
  subst he
  conv=>whnf
  refine⟨rfl,by simp,⟨rfl,rfl,rfl,rfl,by decide⟩,by simp,⟨by simp[tab,tabOf,nth];omega,by simp;omega⟩,?_⟩
  conv=>whnf
  refine⟨_,_,_,?_,0,rfl,rfl,rfl⟩
  exact(Ends.all id [] (by repeat' (first|exact LHa|exact .osl_of rfl (by omega) (by simp)|exact LeB.eq_of (by simp[List.take_of_length_le]) (insRows_free' hf hx)|exact .A|exact LeL.fr rfl|exact LHb|refine Or.inl ⟨by simp,_,rfl,?_⟩|exact Or.inr ⟨by simp,_,_,_,_,rfl⟩|refine⟨rfl,rfl,rfl,rfl,rfl,rfl,?_⟩|refine⟨?_,?_⟩)) (fun _ _ _ _ h=>h) (fun _ _=>rfl) (by omega) (by simp))
 ·rename_i he
  have he:i < rows.length:=by simp at he;omega
  obtain rfl:=hex (fun e=>by subst e;simp at he)
  conv=>whnf
  refine⟨⟨rfl,by decide,by omega,rfl⟩,?_⟩
  conv=>whnf
  have hw1:IntKind.i64.wrap ((rows.length:Int)+ ((1:Nat):Int))=((rows.length + 1:Nat):Int):=by rw[wrap64]<;>omega
  have hw2:IntKind.i64.wrap (IntKind.i64.wrap ((rows.length:Int)+ ((1:Nat):Int)) - (i:Int))=((rows.length + 1 - i:Nat):Int):=by rw[hw1,wrap64]<;>omega
  have hw3:IntKind.i64.wrap ((i:Int)+ ((1:Nat):Int))=((i + 1:Nat):Int):=by rw[wrap64]<;>omega
  split
  ·rename_i hc
   have hk0:k=0:=by rw[hw1]at hc;simp at hc;omega
   subst hk0
   conv=>whnf
   refine⟨rfl,.own,⟨trivial,by simp,by simp,by simp;omega⟩,?_⟩
   conv=>whnf
   refine⟨⟨rfl,rfl,rfl,by decide,by rw[hw2];omega⟩,by simp;omega,⟨by rw[hw2];simp[tab,tabOf,nth];omega,by rw[hw2];simp;omega⟩,true,⟨rfl,by rw[hw2];simp;omega⟩,?_⟩
   conv=>whnf
   refine⟨rfl,⟨by simp,by simp⟩,?_⟩
   conv=>whnf
   refine⟨rfl,by simp,⟨rfl,rfl,rfl⟩,by rw[hw2];simp;omega,?_⟩
   conv=>whnf
   refine⟨rfl,⟨by rw[hw3];omega,by rw[hw2,hw3];simp;omega⟩,?_⟩
   conv=>whnf
   refine⟨rfl,⟨by simp,by simp;omega⟩,?_⟩
   conv=>whnf
   refine⟨rfl,by simp,⟨rfl,rfl,rfl⟩,by rw[hw2,hw3];simp;omega,?_⟩
   conv=>whnf
   refine⟨by kernel_rfl,?_⟩
   conv=>whnf
   refine⟨_,_,_,?_,0,rfl,rfl,rfl⟩
   refine(Ends.all id [] (by repeat' (first|exact LHa|exact .osl_of rfl (by omega) (by rw[hw2];simp;omega)|exact⟨id,(fun h=>by cases h),rfl,rfl,LeR.out (LeR.of_eq (by simp only[hw2,hw3,Int.toNat_natCast,Nat.zero_add,Nat.sub_zero,List.drop_zero,List.take_succ_cons,List.take_zero,List.replicate_zero,List.append_nil];exact ins_grow he) (LeR.free (insRows_free' hf hx)))⟩|exact .A|exact LeL.fr rfl|exact LHb|refine Or.inl ⟨by simp,_,rfl,?_⟩|exact Or.inr ⟨by simp,_,_,_,_,rfl⟩|refine⟨rfl,rfl,rfl,rfl,rfl,rfl,?_⟩|refine⟨?_,?_⟩)) (fun _ _ _ _ h=>h) (fun _ _=>rfl) (by omega) (by simp))
  ·rename_i hc
   have hk0:0 < k:=by rw[hw1]at hc;simp at hc;omega
   conv=>whnf
   refine⟨rfl,.past,rfl,by decide,by omega,⟨trivial,by rw[hw1];omega,rfl,by rw[hw1];simp;omega⟩,?_⟩
   conv=>whnf
   refine⟨rfl,⟨by rw[hw3];omega,by rw[hw1,hw3];simp;omega⟩,?_⟩
   conv=>whnf
   refine callV_overlaps tab_ok (t:=32) (r:=4) (e:=91) rfl (by simp[tab,tabOf,nth]) (by decide) rfl rfl rfl rfl rfl rfl rfl (by decide) ?_
   conv=>whnf
   refine⟨rfl,⟨by rw[hw3];omega,by rw[hw1,hw3];simp;omega⟩,?_⟩
   conv=>whnf
   refine⟨rfl,⟨by simp,by rw[hw1];simp;omega⟩,?_⟩
   conv=>whnf
   refine⟨rfl,by rw[hw1];simp;omega,⟨rfl,rfl,rfl⟩,by rw[hw1,hw3];simp;omega,?_⟩
   conv=>whnf
   refine⟨by kernel_rfl,?_⟩
   conv=>whnf
   refine⟨rfl,⟨by simp,by rw[hw1];simp;omega⟩,?_⟩
   conv=>whnf
   refine⟨rfl,by simp,⟨rfl,rfl,rfl⟩,by rw[hw1];simp;omega,?_⟩
   conv=>whnf
   refine⟨_,_,_,?_,k - 1,rfl,rfl,rfl⟩
   refine(Ends.all (renOf [(2,0)]) [] (by repeat' (first|exact LHa|exact .osl_of rfl (by omega) (by rw[hw1];simp)|exact⟨id,(fun h=>by cases h),rfl,rfl,LeR.out (LeR.of_eq (by simp only[hw1,hw3,Int.toNat_natCast,Nat.zero_add,Nat.sub_zero,List.drop_zero,List.take_succ_cons,List.take_zero,List.replicate_zero,List.append_nil];exact ins_shift he hk0) (LeR.free (insRows_free' hf hx)))⟩|exact .A|exact LeL.fr rfl|exact LHb|refine Or.inl ⟨by simp,_,rfl,?_⟩|exact Or.inr ⟨by simp,_,_,_,_,rfl⟩|refine⟨rfl,rfl,rfl,rfl,rfl,rfl,?_⟩|refine⟨?_,?_⟩)) (show ∀b∈([2]:List Nat),∀b'∈([2]:List Nat),(renOf [(2,0)]) b=(renOf [(2,0)]) b'→b=b' by decide) (show ∀b,b < 2→(renOf [(2,0)]) b=b by decide) (by omega) (by simp))
end
section
open Go.Proofs.Tryz (prog)
attribute [local irreducible] CallV RoundV
theorem ins_eq {l:List UInt32} {t:UInt32} {i:Nat} (hi:i≤l.length) (lo:∀(k:Nat) (hk:k < l.length),k < i→l[k] < t) (hi':∀(k:Nat) (hk:k < l.length),i≤k→¬ l[k] < t) (hno:l.contains t=false):l.take i ++ [t]++ l.drop i=insT l t:=by
 induction l generalizing i with
 | nil=>simp[insT]
 | cons y r ih=>
  have hny:y ≠ t:=fun e=>by simp[e]at hno
  cases i with
  | zero=>
   have h0:=hi' 0 (by simp) (Nat.le_refl _)
   simp only[List.getElem_cons_zero]at h0
   have hlt:t < y:=by
    rw[UInt32.lt_iff_toNat_lt]at *
    have:y.toNat ≠ t.toNat:=fun e=>hny (UInt32.toNat_inj.1 e)
    omega
   simp[insT,hlt]
  | succ i=>
   have h0:=lo 0 (by simp) (by omega)
   simp only[List.getElem_cons_zero]at h0
   have hnl:¬ t < y:=by rw[UInt32.lt_iff_toNat_lt]at *;omega
   have:=ih (i:=i) (by simpa using hi) (fun k hk hlt=>by have:=lo (k + 1) (by simpa using hk) (by omega);simpa using this) (fun k hk hle=>by have:=hi' (k + 1) (by simpa using hk) (by omega);simpa using this) (by simp at hno ⊢;exact hno.2)
   simp only[insT,if_neg hnl,List.take_succ_cons,List.drop_succ_cons,List.cons_append]
   rw[← this]
theorem few_of_right {a:Attrs} (h:rightA a=true):a.path.length≤8∧(∀p∈a.path,p.ns.length≤32)∧a.tags.length≤16∧rises a.tags=true:=by
 have h1:=pathOk_all (right_path h)
 refine⟨h1.1,fun p hp=>(legOk_ns (h1.2 p hp)).2.1,?_,?_⟩
 ·simp[rightA]at h;have:=h.1.2;omega
 ·simp[rightA]at h;exact h.2
theorem openW_free (l:List UInt32) (k:Nat):∀x∈rowsW l ++ List.replicate k (List.replicate 1 V.any),∀v∈x,Free v:=by
 have:=insRows_free' (rows:=rowsW l) (x:=[]) (i:=l.length) (k:=k) (n:=1) (rowsW_free _) (by simp)
 intro x hx v hv
 rcases List.mem_append.1 hx with h|h
 ·exact rowsW_free l x h v hv
 ·rw[List.eq_of_mem_replicate h]at hv
  rw[List.eq_of_mem_replicate hv]
  exact .any
theorem less_encA (fr:Bool) {a:Attrs}:Less (encA fr a) (encA false a):=by
 cases fr with
 | false=>exact .refl _
 | true=>exact .agg2 (.refl _) (.agg2 .legs (.agg2 (.refl _) (.agg2 (.refl _) (.agg2 (.refl _) (.agg2 (.refl _) (.agg2 (.refl _) (.agg2 .encW (.refl _))))))))
theorem tag_ok (fr:Bool) (a:Attrs) (t:UInt32):PCon prog 124 [encA fr a,cW t] (tagV true a t):=by
 refine callV_of (fn:=Go.Proofs.Tryz.f124) (body:=_) tab_ok mixed rfl rfl (by decide) (by simp[Go.Proofs.Tryz.f124]) ?_
 conv=>whnf
 refine callV_pure (check_ok fr a) ⟨.free (encA_free _ _),trivial⟩ ?_
 cases hr:rightA a with
 | false=>
  rw[tagV_bad hr,checkA_no hr]
  conv=>whnf
  exact(Ends.pure [] (by repeat' (first|exact True.intro|exact .noA|exact .A|exact LeL.fr rfl|refine .tupL ?_|refine .aggL ?_|refine⟨?_,?_⟩)) (by simp))
 | true=>
 rw[checkA_yes hr]
 obtain⟨hpl,hp,htl,hri⟩:=few_of_right hr
 conv=>whnf
 refine callV_vown (nx:=2) [] (copyT_ok false a (by omega) (fun p h=>by have:=hp p h;omega) (by omega)) ⟨.less (.free (encA_free fr a)) (less_encA fr),trivial⟩ (by intro v hv;simp at hv;subst hv;exact encA_cold _) (by simp) (rowsW_ff _) (ownT_mov a) ?_
 conv=>whnf
 obtain⟨i,hi,lo,hi',hbs⟩:=bs_ok false a.tags t hri (by omega)
 refine callV_lend [2] hbs ⟨.fresh_off (LeV.freeze_of (by simp) rfl (by simp) (rowsW_free _) (List.take_of_length_le (by simp))),.free .int,trivial⟩ (by intro v hv;simp at hv;rcases hv with rfl|rfl;exact encW_cold _;exact .int) (one_none rfl) (.tup (by intro v hv;simp at hv;rcases hv with rfl|rfl;exact .int;exact .bool)) ?_
 cases hc:a.tags.contains t with
 | true=>
  rw[tagV_in hr hc]
  conv=>whnf
  intro _
  conv=>whnf
  (split<;>first|(rename_i hh;exfalso;first|(simp at hh;done)|(simp at hh;omega))|skip);(conv=>whnf)
  exact(Ends.pure [2] (by repeat' (first|exact True.intro|exact LeV.freezeE (by simp) rfl (by simp) (List.take_of_length_le (by simp)) (rowsW_free _)|exact .A|exact LeL.fr rfl|refine .tupL ?_|refine .aggL ?_|refine⟨?_,?_⟩)) (by intro z hz;simp only[List.mem_cons,List.not_mem_nil,or_false]at hz;rcases hz with rfl<;>exact ne_none_of rfl))
 | false=>
  have fin:∀{s:St} {k:Nat} {l:List UInt32},hget s.h 4=some (.arr true false 22 1 (rowsW l ++ List.replicate k (List.replicate 1 V.any)))→l=insT a.tags t→a.tags.length < 16 →
    ∃v1 h' nx',Ends 0 s (.tup [.agg [cB a.origin,encLegs true a.path,cW a.next,.bool a.hasMed,cW a.med,.bool a.hasPref,cW a.pref,.osl 4 1 0 (a.tags.length + 1)],.int .i64 0]) v1 h' nx'∧(v1=tagV true a t∧h'=[]∧nx'=0):=fun h4 hl hlt=>by
   rw[tagV_new hr hc hlt]
   have hn:a.tags.length + 1=(rowsW (insT a.tags t)).length:=by simp[insT_len]
   refine Ends.pure [4] (.tupL ⟨.aggL ⟨.free .int,.free (encLegs_free _ _),.free .int,.free .bool,.free .int,.free .bool,.free .int,LeV.freezeE (by simp) h4 ?_ ?_ (rowsW_free _),trivial⟩,.free .int,trivial⟩) (by intro z hz;simp at hz;subst hz;rw[h4];simp)
   ·subst hl;rw[hn,List.length_append];omega
   ·subst hl
    rw[hn,List.drop_zero]
    exact List.take_left
  have long:∀{s:St} {v:V},16≤a.tags.length→LeV s.h s.nx id 0 [] v (encA true noA)→∃v1 h' nx',Ends 0 s (.tup [v,.int .i64 3]) v1 h' nx'∧(v1=tagV true a t∧h'=[]∧nx'=0):=fun hl hv=>by
   rw[tagV_long hr hc hl]
   exact Ends.pure [] (.tupL ⟨hv,.free .int,trivial⟩) (by simp)
  have hrow:∀v∈[cW t],Free v:=by intro v hv;simp at hv;subst hv;exact .int
  have hins:rowsW (insT a.tags t)=(rowsW a.tags).take i ++ [[cW t]]++ (rowsW a.tags).drop i:=by
   rw[← ins_eq hi lo hi' hc];simp
  conv=>whnf
  by_cases hne:a.tags=[]
  ·refine callV_frame (nx:=4) (n0:=2) (renOf [(0,2),( 1,3)]) (insertW_ok (rowsW a.tags) [cW t] (rowsW_free _) hrow false (fun h=>absurd (by simp[hne]) h) i 0 (by simp;omega) (by simp;exact hi)) (by repeat' (first|exact True.intro|exact .osl_of rfl (by omega) (by simp)|exact LeB.arrE (by simp) (rowsW_free a.tags) id id|exact LeB.arrE rfl (rowsW_free [t]) id id|exact .A|exact LeL.fr rfl|refine⟨?_,?_⟩)) (LeH.of (by repeat' (first|exact LHa|exact .osl_of rfl (by omega) (by simp)|exact LeB.arrE (by simp) (rowsW_free a.tags) id id|exact LeB.arrE rfl (rowsW_free [t]) id id|exact .A|exact LeL.fr rfl|exact LHb|refine Or.inl ⟨by simp,_,rfl,?_⟩|exact Or.inr ⟨by simp,_,_,_,_,rfl⟩|refine⟨rfl,rfl,rfl,rfl,rfl,rfl,?_⟩|refine⟨?_,?_⟩)) (show ∀b∈([0,1]:List Nat),∀b'∈([0,1]:List Nat),(renOf [(0,2),( 1,3)]) b=(renOf [(0,2),( 1,3)]) b'→b=b' by decide) (fun _ h=>by omega) (by omega) (by simp)) (fun b hb=>by match b,hb with|0,_=>exact ne_none_of rfl|1,_=>exact ne_none_of rfl) (by decide) ?_
   rintro v h' nx' ⟨k',rfl,rfl,rfl⟩ _
   refine⟨.osl 4 1 0 (a.tags.length + 1),[(4,some (.arr true false 22 1 (rowsW (insT a.tags t)++ List.replicate k' (List.replicate 1 .any)))),(0,some _),(1,some _)],by rw[show(rowsW a.tags).length=a.tags.length by simp];exact Ren.osl rfl,(by repeat' (first|exact True.intro|exact Or.inr ⟨by decide,rfl⟩|exact Or.inl ⟨2,rfl,by omega,_,rfl,by rw[hins];exact RenB.arr (insRows_free' (rowsW_free _) hrow)⟩|refine⟨?_,?_⟩)),?_⟩
   conv=>whnf
   intro _
   conv=>whnf
   split
   ·rename_i h16
    conv=>whnf
    exact long (by simp at h16;omega) .noA
   ·rename_i h16
    conv=>whnf
    exact fin rfl rfl (by simp at h16;omega)
  ·refine callV_open rfl (by decide) (by simpa using hne) 0 rfl (List.length_pos_iff.2 hne) fun k=>?_
   refine callV_frame (nx:=4) (n0:=2) (renOf [(0,2),( 1,3)]) (insertW_ok (rowsW a.tags) [cW t] (rowsW_free _) hrow true (fun _=>rfl) i k (by simp;omega) (by simp;exact hi)) (by repeat' (first|exact True.intro|exact .osl_of rfl (by omega) (by simp)|exact LeB.arrE rfl (openW_free a.tags k) id id|exact LeB.arrE rfl (rowsW_free [t]) id id|exact .A|exact LeL.fr rfl|refine⟨?_,?_⟩)) (LeH.of (by repeat' (first|exact LHa|exact .osl_of rfl (by omega) (by simp)|exact LeB.arrE rfl (openW_free a.tags k) id id|exact LeB.arrE rfl (rowsW_free [t]) id id|exact .A|exact LeL.fr rfl|exact LHb|refine Or.inl ⟨by simp,_,rfl,?_⟩|exact Or.inr ⟨by simp,_,_,_,_,rfl⟩|refine⟨rfl,rfl,rfl,rfl,rfl,rfl,?_⟩|refine⟨?_,?_⟩)) (show ∀b∈([0,1]:List Nat),∀b'∈([0,1]:List Nat),(renOf [(0,2),( 1,3)]) b=(renOf [(0,2),( 1,3)]) b'→b=b' by decide) (fun _ h=>by omega) (by omega) (by simp)) (fun b hb=>by match b,hb with|0,_=>exact ne_none_of rfl|1,_=>exact ne_none_of rfl) (by decide) ?_
   rintro v h' nx' ⟨k',rfl,rfl,rfl⟩ _
   refine⟨.osl 4 1 0 (a.tags.length + 1),[(4,some (.arr true false 22 1 (rowsW (insT a.tags t)++ List.replicate k' (List.replicate 1 .any)))),(0,some _),(1,some _)],by rw[show(rowsW a.tags).length=a.tags.length by simp];exact Ren.osl rfl,(by repeat' (first|exact True.intro|exact Or.inr ⟨by decide,rfl⟩|exact Or.inl ⟨2,rfl,by omega,_,rfl,by rw[hins];exact RenB.arr (insRows_free' (rowsW_free _) hrow)⟩|refine⟨?_,?_⟩)),?_⟩
   conv=>whnf
   intro _
   conv=>whnf
   split
   ·rename_i h16
    conv=>whnf
    exact long (by simp at h16;omega) .noA
   ·rename_i h16
    conv=>whnf
    exact fin rfl rfl (by simp at h16;omega)
end
section
open Go.Proofs.Tryz (prog)
attribute [local irreducible] CallV RoundV
theorem openL_free {rows:List (List V)} (hf:∀x∈rows,∀v∈x,Free v) (k:Nat):∀x∈rows ++ List.replicate k (List.replicate 2 V.any),∀v∈x,Free v:=by
 intro x hx v hv
 rcases List.mem_append.1 hx with h|h
 ·exact hf x h v hv
 ·rw[List.eq_of_mem_replicate h]at hv
  rw[List.eq_of_mem_replicate hv]
  exact .any
theorem rowsLegs_ff (l:List Leg):∀x∈l.map (encLeg true),∀v∈x,Free v∧Fresh v:=by
 intro x hx v hv
 obtain⟨p,_,rfl⟩:=List.mem_map.1 hx
 simp[encLeg]at hv
 rcases hv with rfl|rfl
 ·exact⟨.bool,.bool⟩
 ·exact⟨encW_free _ _,encW_fresh _⟩
theorem prepend_ok (fr:Bool) (a:Attrs) (x:UInt32) (n:Int):PCon prog 79 [encA fr a,cW x,.int .i64 n] (prepV true a x n):=by
 have bad:∀{s:St} {v:V},badPre a x n=true→LeV s.h s.nx id 0 [] v (encA true noA)→∃v1 h' nx',Ends 0 s (.tup [v,.int .i64 2]) v1 h' nx'∧(v1=prepV true a x n∧h'=[]∧nx'=0):=fun hb hv=>by
  rw[prepV_bad hb]
  exact Ends.pure [] (.tupL ⟨hv,.free .int,trivial⟩) (by simp)
 refine callV_of (fn:=Go.Proofs.Tryz.f79) (body:=_) tab_ok mixed rfl rfl (by decide) (by simp[Go.Proofs.Tryz.f79]) ?_
 conv=>whnf
 refine callV_pure (check_ok fr a) ⟨.free (encA_free _ _),trivial⟩ ?_
 cases hr:rightA a with
 | false=>
  rw[checkA_no hr]
  conv=>whnf
  exact bad (by simp[badPre,hr]) .noA
 | true=>
 rw[checkA_yes hr]
 obtain⟨hpl,hp,htl,hri⟩:=few_of_right hr
 conv=>whnf
 cases hx:((x.toNat:Int) == 0)with
 | true=>
  conv=>whnf
  exact bad (by rw[u32_eq]at hx;simp[badPre,hx]) .noA
 | false=>
 conv=>whnf
 cases hn:decide (n < 0)with
 | true=>
  conv=>whnf
  exact bad (by simp[badPre,hn]) .noA
 | false=>
 conv=>whnf
 cases h8:decide (8 < n)with
 | true=>
  conv=>whnf
  exact bad (by simp[badPre,h8]) .noA
 | false=>
 have hb:badPre a x n=false:=by rw[u32_eq]at hx;simp[badPre,hr,hx,hn,h8]
 conv=>whnf
 refine callV_vown (nx:=2) [] (copy_ok false a (by omega) (fun p h=>by have:=hp p h;omega) (by omega)) ⟨.less (.free (encA_free fr a)) (less_encA fr),trivial⟩ (by intro v hv;simp at hv;subst hv;exact encA_cold _) (by simp) (rowsLegs_ff _) (ownA_mov a) ?_
 conv=>whnf
 cases h0:(n == 0)with
 | true=>
  have h0:n=0:=by simpa using h0
  subst h0
  rw[prepV_zero hb]
  conv=>whnf
  exact(Ends.pure [2] (by repeat' (first|exact True.intro|exact LeV.freezeE (by simp) rfl (by simp) (List.take_of_length_le (by simp)) (rowsLegs_free _ _)|exact .A|exact LeL.fr rfl|refine .tupL ?_|refine .aggL ?_|refine⟨?_,?_⟩)) (by intro z hz;simp only[List.mem_cons,List.not_mem_nil,or_false]at hz;rcases hz with rfl<;>exact ne_none_of rfl))
 | false=>
 have h0:n ≠ 0:=by simpa using h0
 obtain⟨n,rfl⟩:∃k:Nat,n=k:=⟨n.toNat,by have:=of_decide_eq_false hn;omega⟩
 have hk:n≤8:=by have:=of_decide_eq_false h8;omega
 have hk0:0 < n:=by omega
 have fin:∀{s:St} {vp:V} (Z:List Nat),pathOk (prePath a.path x n)=true→LeV s.h s.nx id 0 Z vp (encLegs true (prePath a.path x n))→(∀z∈Z,hget s.h z ≠ none) →
   ∃v1 h' nx',Ends 0 s (.tup [.agg [cB a.origin,vp,cW a.next,.bool a.hasMed,cW a.med,.bool a.hasPref,cW a.pref,encW true a.tags],.int .i64 0]) v1 h' nx'∧(v1=prepV true a x n∧h'=[]∧nx'=0):=fun Z hlp hv hz=>by
  rw[prepV_ok hb h0 hlp]
  exact Ends.pure Z (.tupL ⟨.aggL ⟨.free .int,hv,.free .int,.free .bool,.free .int,.free .bool,.free .int,.free (encW_free _ _),trivial⟩,.free .int,trivial⟩) hz
 have long:∀{s:St} {v:V},pathOk (prePath a.path x n)=false→LeV s.h s.nx id 0 [] v (encA true noA)→∃v1 h' nx',Ends 0 s (.tup [v,.int .i64 3]) v1 h' nx'∧(v1=prepV true a x n∧h'=[]∧nx'=0):=fun hlp hv=>by
  rw[prepV_long hb h0 hlp]
  exact Ends.pure [] (.tupL ⟨hv,.free .int,trivial⟩) (by simp)
 conv=>whnf
 intro _
 conv=>whnf
 obtain⟨o,l,nn,hm,m,hq,q,tg⟩:=a
 simp only at hpl hp
 have hrow:∀v∈[V.bool false,V.snil],Free v:=by intro v hv;simp at hv;rcases hv with rfl|rfl;exact .bool;exact .snil
 rcases l with _|⟨⟨st,ns⟩,r⟩
 ·conv=>whnf
  refine callV_frame (nx:=4) (n0:=2) (renOf [(0,2),( 1,3)]) (insertL_ok [] [.bool false,.snil] (by simp) hrow false (fun h=>absurd rfl h) 0 0 (by simp) (by simp)) (by repeat' (first|exact True.intro|exact .osl_of rfl (by omega) (by simp)|exact LeB.arrE (xs:=[]) rfl (by simp) id id|exact LeB.arrE rfl (by intro y hy;simp only[List.mem_singleton]at hy;subst hy;exact hrow) id id|exact .A|exact LeL.fr rfl|refine⟨?_,?_⟩)) (LeH.of (by repeat' (first|exact LHa|exact .osl_of rfl (by omega) (by simp)|exact LeB.arrE (xs:=[]) rfl (by simp) id id|exact LeB.arrE rfl (by intro y hy;simp only[List.mem_singleton]at hy;subst hy;exact hrow) id id|exact .A|exact LeL.fr rfl|exact LHb|refine Or.inl ⟨by simp,_,rfl,?_⟩|exact Or.inr ⟨by simp,_,_,_,_,rfl⟩|refine⟨rfl,rfl,rfl,rfl,rfl,rfl,?_⟩|refine⟨?_,?_⟩)) (show ∀b∈([0,1]:List Nat),∀b'∈([0,1]:List Nat),(renOf [(0,2),( 1,3)]) b=(renOf [(0,2),( 1,3)]) b'→b=b' by decide) (fun _ h=>by omega) (by omega) (by simp)) (fun b hb=>by match b,hb with|0,_=>exact ne_none_of rfl|1,_=>exact ne_none_of rfl) (by decide) ?_
  rintro v h' nx' ⟨k',rfl,rfl,rfl⟩ _
  refine⟨.osl 4 2 0 1,[(4,some (.arr true false 91 2 ([.bool false,.snil] :: List.replicate k' (List.replicate 2 .any)))),(0,some _),(1,some _)],Ren.osl rfl,(by repeat' (first|exact True.intro|exact Or.inr ⟨by decide,rfl⟩|exact Or.inl ⟨2,rfl,by omega,_,rfl,RenB.arr (openL_free (rows:=[[.bool false,.snil]]) (by intro y hy;simp only[List.mem_singleton]at hy;subst hy;exact hrow) k')⟩|refine⟨?_,?_⟩)),?_⟩
  conv=>whnf
  refine⟨encW true (List.replicate n x),[(5,some (.arr true true 22 1 (rowsW [x])))],fun h nx hrd=>?_,?_,?_⟩
  ·have h8:=hrd 5 _ (List.mem_singleton.2 rfl)
   refine pureV_lend [5] (repeat_ok false x n hk) ⟨LeV.fresh_off (LeV.freeze_of (by simp) h8 (by simp) (rowsW_free [x]) rfl),.int_of rfl,trivial⟩ ?_ (one_none h8) (encW_fresh _)
   intro v hv
   simp at hv
   rcases hv with rfl|rfl
   ·exact encW_cold _
   ·exact .int
  ·intro b ob hm
   obtain⟨rfl,rfl⟩:b=5∧ob=_:=by simpa using hm
   rfl
  conv=>whnf
  refine⟨rfl,⟨by decide,by simp;try omega⟩,?_⟩
  conv=>whnf
  refine⟨rfl,_,rfl,?_⟩
  conv=>whnf
  refine⟨encW true (List.replicate n x ++ []),[(6,some (.arr true true 33 1 [[encW true (List.replicate n x)],[.snil]]))],fun h nx hrd=>?_,?_,?_⟩
  ·have h9:=hrd 6 _ (List.mem_singleton.2 rfl)
   refine pureV_lend [6] (concat_ok false (List.replicate n x) [] .snil (by first|exact .inl rfl|exact .inr ⟨rfl,rfl⟩) (by simp;omega) (by first|omega|(simp;done))) ⟨.less (v1:=pairV true (List.replicate n x) .snil) (LeV.freeze_of (by simp) h9 (by simp) (encW_rows_free (vs:=[encW true (List.replicate n x),.snil]) (by intro v hv;simp at hv;rcases hv with rfl|rfl;exact encW_free _ _;first|exact encW_free _ _|exact .snil)) rfl) (.pair (by first|exact .encW|exact Less.refl _)),trivial⟩ ?_ (one_none h9) (encW_fresh _)
   intro v hv
   simp at hv
   subst hv
   exact pairV_cold (by first|exact .inl rfl|exact .inr ⟨rfl,rfl⟩)
  ·intro b ob hm
   obtain⟨rfl,rfl⟩:b=6∧ob=_:=by simpa using hm
   rfl
  conv=>whnf
  refine⟨rfl,⟨by decide,by simp;try omega⟩,?_⟩
  conv=>whnf
  refine⟨rfl,_,rfl,?_⟩
  conv=>whnf
  refine⟨by kernel_rfl,?_⟩
  conv=>whnf
  have hfz:∀{h:Heap} {nx nx':Nat} {ρ:Nat→Nat} {Z:List Nat} {e2:Bool},4∈Z→hget h 4=some (.arr true e2 91 2 ([.bool false,encW true (List.replicate n x ++ [])] :: List.replicate k' (List.replicate 2 .any)))→LeV h nx ρ nx' Z (.osl 4 2 0 1) (encLegs true (prePath (⟨o,[],nn,hm,m,hq,q,tg⟩:Attrs).path x n)):=fun hz hb=>LeV.freezeE hz hb (by simp) (by simp[prePath,encLeg]) (rowsLegs_free _ _)
  refine callV_lend [4] (path_ok false (prePath (⟨o,[],nn,hm,m,hq,q,tg⟩:Attrs).path x n)) ⟨.less (v1:=encLegs true (prePath (⟨o,[],nn,hm,m,hq,q,tg⟩:Attrs).path x n)) (hfz (by simp) rfl) .legs,trivial⟩ (by intro v hv;simp at hv;subst hv;exact encLegs_cold _) (one_none rfl) .bool ?_
  cases hpo:pathOk (prePath (⟨o,[],nn,hm,m,hq,q,tg⟩:Attrs).path x n)with
  | false=>
   conv=>whnf
   exact long hpo .noA
  | true=>
   conv=>whnf
   exact fin [4] hpo (hfz (by simp) rfl) (by intro z hz;simp only[List.mem_cons,List.not_mem_nil,or_false]at hz;rcases hz with rfl<;>exact ne_none_of rfl)
 ·simp only[List.length_cons]at hpl
  have hns:=hp ⟨st,ns⟩ (by simp)
  simp only at hns
  cases st with
  | true=>
   conv=>whnf
   refine⟨rfl,⟨by simp,by simp;try omega⟩,?_⟩
   conv=>whnf
   refine⟨rfl,_,rfl,?_⟩
   conv=>whnf
   refine callV_open rfl (by decide) (by simp) 0 rfl (by simp) fun k=>?_
   refine callV_frame (nx:=4) (n0:=2) (renOf [(0,2),( 1,3)]) (insertL_ok (List.map (encLeg true) (⟨true,ns⟩ :: r)) [.bool false,.snil] (rowsLegs_free _ _) hrow true (fun _=>rfl) 0 k (by simp;omega) (by simp)) (by repeat' (first|exact True.intro|exact .osl_of rfl (by omega) (by simp)|exact LeB.arrE rfl (openL_free (rowsLegs_free true (⟨true,ns⟩ :: r)) k) id id|exact LeB.arrE rfl (by intro y hy;simp only[List.mem_singleton]at hy;subst hy;exact hrow) id id|exact .A|exact LeL.fr rfl|refine⟨?_,?_⟩)) (LeH.of (by repeat' (first|exact LHa|exact .osl_of rfl (by omega) (by simp)|exact LeB.arrE rfl (openL_free (rowsLegs_free true (⟨true,ns⟩ :: r)) k) id id|exact LeB.arrE rfl (by intro y hy;simp only[List.mem_singleton]at hy;subst hy;exact hrow) id id|exact .A|exact LeL.fr rfl|exact LHb|refine Or.inl ⟨by simp,_,rfl,?_⟩|exact Or.inr ⟨by simp,_,_,_,_,rfl⟩|refine⟨rfl,rfl,rfl,rfl,rfl,rfl,?_⟩|refine⟨?_,?_⟩)) (show ∀b∈([0,1]:List Nat),∀b'∈([0,1]:List Nat),(renOf [(0,2),( 1,3)]) b=(renOf [(0,2),( 1,3)]) b'→b=b' by decide) (fun _ h=>by omega) (by omega) (by simp)) (fun b hb=>by match b,hb with|0,_=>exact ne_none_of rfl|1,_=>exact ne_none_of rfl) (by decide) ?_
   rintro v h' nx' ⟨k',rfl,rfl,rfl⟩ _
   refine⟨.osl 4 2 0 (r.length + 1 + 1),[(4,some (.arr true false 91 2 ([.bool false,.snil] :: List.map (encLeg true) (⟨true,ns⟩ :: r)++ List.replicate k' (List.replicate 2 .any)))),(0,some _),(1,some _)],by rw[List.length_map,List.length_cons];exact Ren.osl rfl,(by repeat' (first|exact True.intro|exact Or.inr ⟨by decide,rfl⟩|exact Or.inl ⟨2,rfl,by omega,_,rfl,RenB.arr (openL_free (insRows_free (i:=0) (rowsLegs_free true (⟨true,ns⟩ :: r)) hrow) k')⟩|refine⟨?_,?_⟩)),?_⟩
   conv=>whnf
   refine⟨encW true (List.replicate n x),[(5,some (.arr true true 22 1 (rowsW [x])))],fun h nx hrd=>?_,?_,?_⟩
   ·have h8:=hrd 5 _ (List.mem_singleton.2 rfl)
    refine pureV_lend [5] (repeat_ok false x n hk) ⟨LeV.fresh_off (LeV.freeze_of (by simp) h8 (by simp) (rowsW_free [x]) rfl),.int_of rfl,trivial⟩ ?_ (one_none h8) (encW_fresh _)
    intro v hv
    simp at hv
    rcases hv with rfl|rfl
    ·exact encW_cold _
    ·exact .int
   ·intro b ob hm
    obtain⟨rfl,rfl⟩:b=5∧ob=_:=by simpa using hm
    rfl
   conv=>whnf
   refine⟨rfl,⟨by decide,by simp;try omega⟩,?_⟩
   conv=>whnf
   refine⟨rfl,_,rfl,?_⟩
   conv=>whnf
   refine⟨encW true (List.replicate n x ++ []),[(6,some (.arr true true 33 1 [[encW true (List.replicate n x)],[.snil]]))],fun h nx hrd=>?_,?_,?_⟩
   ·have h9:=hrd 6 _ (List.mem_singleton.2 rfl)
    refine pureV_lend [6] (concat_ok false (List.replicate n x) [] .snil (by first|exact .inl rfl|exact .inr ⟨rfl,rfl⟩) (by simp;omega) (by first|omega|(simp;done))) ⟨.less (v1:=pairV true (List.replicate n x) .snil) (LeV.freeze_of (by simp) h9 (by simp) (encW_rows_free (vs:=[encW true (List.replicate n x),.snil]) (by intro v hv;simp at hv;rcases hv with rfl|rfl;exact encW_free _ _;first|exact encW_free _ _|exact .snil)) rfl) (.pair (by first|exact .encW|exact Less.refl _)),trivial⟩ ?_ (one_none h9) (encW_fresh _)
    intro v hv
    simp at hv
    subst hv
    exact pairV_cold (by first|exact .inl rfl|exact .inr ⟨rfl,rfl⟩)
   ·intro b ob hm
    obtain⟨rfl,rfl⟩:b=6∧ob=_:=by simpa using hm
    rfl
   conv=>whnf
   refine⟨rfl,⟨by decide,by simp;try omega⟩,?_⟩
   conv=>whnf
   refine⟨rfl,_,rfl,?_⟩
   conv=>whnf
   refine⟨by kernel_rfl,?_⟩
   conv=>whnf
   have hfz:∀{h:Heap} {nx nx':Nat} {ρ:Nat→Nat} {Z:List Nat} {e2:Bool},4∈Z→hget h 4=some (.arr true e2 91 2 ([.bool false,encW true (List.replicate n x ++ [])] :: List.map (encLeg true) (⟨true,ns⟩ :: r)++ List.replicate k' (List.replicate 2 .any)))→LeV h nx ρ nx' Z (.osl 4 2 0 (r.length + 1 + 1)) (encLegs true (prePath (⟨o,(⟨true,ns⟩ :: r),nn,hm,m,hq,q,tg⟩:Attrs).path x n)):=fun hz hb=>LeV.freezeE hz hb (by simp) (by simp[prePath,encLeg]) (rowsLegs_free _ _)
   refine callV_lend [4] (path_ok false (prePath (⟨o,(⟨true,ns⟩ :: r),nn,hm,m,hq,q,tg⟩:Attrs).path x n)) ⟨.less (v1:=encLegs true (prePath (⟨o,(⟨true,ns⟩ :: r),nn,hm,m,hq,q,tg⟩:Attrs).path x n)) (hfz (by simp) rfl) .legs,trivial⟩ (by intro v hv;simp at hv;subst hv;exact encLegs_cold _) (one_none rfl) .bool ?_
   cases hpo:pathOk (prePath (⟨o,(⟨true,ns⟩ :: r),nn,hm,m,hq,q,tg⟩:Attrs).path x n)with
   | false=>
    conv=>whnf
    exact long hpo .noA
   | true=>
    conv=>whnf
    exact fin [4] hpo (hfz (by simp) rfl) (by intro z hz;simp only[List.mem_cons,List.not_mem_nil,or_false]at hz;rcases hz with rfl<;>exact ne_none_of rfl)
  | false=>
   conv=>whnf
   refine⟨rfl,⟨by simp,by simp;try omega⟩,?_⟩
   conv=>whnf
   refine⟨rfl,_,rfl,?_⟩
   conv=>whnf
   refine⟨encW true (List.replicate n x),[(3,some (.arr true true 22 1 (rowsW [x])))],fun h nx hrd=>?_,?_,?_⟩
   ·have h8:=hrd 3 _ (List.mem_singleton.2 rfl)
    refine pureV_lend [3] (repeat_ok false x n hk) ⟨LeV.fresh_off (LeV.freeze_of (by simp) h8 (by simp) (rowsW_free [x]) rfl),.int_of rfl,trivial⟩ ?_ (one_none h8) (encW_fresh _)
    intro v hv
    simp at hv
    rcases hv with rfl|rfl
    ·exact encW_cold _
    ·exact .int
   ·intro b ob hm
    obtain⟨rfl,rfl⟩:b=3∧ob=_:=by simpa using hm
    rfl
   conv=>whnf
   refine⟨rfl,⟨by decide,by simp;try omega⟩,?_⟩
   conv=>whnf
   refine⟨rfl,_,rfl,?_⟩
   conv=>whnf
   refine⟨encW true (List.replicate n x ++ ns),[(4,some (.arr true true 33 1 [[encW true (List.replicate n x)],[(encW true ns)]]))],fun h nx hrd=>?_,?_,?_⟩
   ·have h9:=hrd 4 _ (List.mem_singleton.2 rfl)
    refine pureV_lend [4] (concat_ok false (List.replicate n x) ns (encW false ns) (by first|exact .inl rfl|exact .inr ⟨rfl,rfl⟩) (by simp;omega) (by first|omega|(simp;done))) ⟨.less (v1:=pairV true (List.replicate n x) (encW true ns)) (LeV.freeze_of (by simp) h9 (by simp) (encW_rows_free (vs:=[encW true (List.replicate n x),(encW true ns)]) (by intro v hv;simp at hv;rcases hv with rfl|rfl;exact encW_free _ _;first|exact encW_free _ _|exact .snil)) rfl) (.pair (by first|exact .encW|exact Less.refl _)),trivial⟩ ?_ (one_none h9) (encW_fresh _)
    intro v hv
    simp at hv
    subst hv
    exact pairV_cold (by first|exact .inl rfl|exact .inr ⟨rfl,rfl⟩)
   ·intro b ob hm
    obtain⟨rfl,rfl⟩:b=4∧ob=_:=by simpa using hm
    rfl
   conv=>whnf
   refine⟨rfl,⟨by decide,by simp;try omega⟩,?_⟩
   conv=>whnf
   refine⟨rfl,_,rfl,?_⟩
   conv=>whnf
   refine⟨by kernel_rfl,?_⟩
   conv=>whnf
   have hfz:∀{h:Heap} {nx nx':Nat} {ρ:Nat→Nat} {Z:List Nat} {e2:Bool},2∈Z→hget h 2=some (.arr true e2 91 2 ([.bool false,encW true (List.replicate n x ++ ns)] :: List.map (encLeg true) r))→LeV h nx ρ nx' Z (.osl 2 2 0 (r.length + 1)) (encLegs true (prePath (⟨o,(⟨false,ns⟩ :: r),nn,hm,m,hq,q,tg⟩:Attrs).path x n)):=fun hz hb=>LeV.freezeE hz hb (by simp) (by simp[prePath,encLeg];exact List.take_of_length_le (by simp)) (rowsLegs_free _ _)
   refine callV_lend [2] (path_ok false (prePath (⟨o,(⟨false,ns⟩ :: r),nn,hm,m,hq,q,tg⟩:Attrs).path x n)) ⟨.less (v1:=encLegs true (prePath (⟨o,(⟨false,ns⟩ :: r),nn,hm,m,hq,q,tg⟩:Attrs).path x n)) (hfz (by simp) rfl) .legs,trivial⟩ (by intro v hv;simp at hv;subst hv;exact encLegs_cold _) (one_none rfl) .bool ?_
   cases hpo:pathOk (prePath (⟨o,(⟨false,ns⟩ :: r),nn,hm,m,hq,q,tg⟩:Attrs).path x n)with
   | false=>
    conv=>whnf
    exact long hpo .noA
   | true=>
    conv=>whnf
    exact fin [2] hpo (hfz (by simp) rfl) (by intro z hz;simp only[List.mem_cons,List.not_mem_nil,or_false]at hz;rcases hz with rfl<;>exact ne_none_of rfl)
end
theorem rightA_parts {a:Attrs} (h:rightA a=true):a.origin.toNat≤2∧pathOk a.path=true∧a.next ≠ 0∧(a.hasMed=false→a.med=0)∧(a.hasPref=false→a.pref=0)∧a.tags.length≤16∧rises a.tags=true:=by
 simp only[rightA,Bool.and_eq_true,decide_eq_true_eq,Bool.or_eq_true,bne_iff_ne,ne_eq,beq_iff_eq]at h
 obtain⟨⟨⟨⟨⟨⟨h1,h2⟩,h3⟩,h4⟩,h5⟩,h6⟩,h7⟩:=h
 refine⟨by omega,h2,h3,fun e=>?_,fun e=>?_,by omega,h7⟩
 ·rcases h4 with h|h
  ·rw[e]at h;cases h
  ·exact h
 ·rcases h5 with h|h
  ·rw[e]at h;cases h
  ·exact h
theorem rightA_of {a:Attrs} (h1:a.origin.toNat≤2) (h2:pathOk a.path=true) (h3:a.next ≠ 0) (h4:a.hasMed=false→a.med=0) (h5:a.hasPref=false→a.pref=0) (h6:a.tags.length≤16) (h7:rises a.tags=true):rightA a=true:=by
 simp only[rightA,Bool.and_eq_true,decide_eq_true_eq,Bool.or_eq_true,bne_iff_ne,ne_eq,beq_iff_eq]
 refine⟨⟨⟨⟨⟨⟨by omega,h2⟩,h3⟩,?_⟩,?_⟩,by omega⟩,h7⟩
 ·cases e:a.hasMed with
  | true=>exact .inl rfl
  | false=>exact .inr (h4 e)
 ·cases e:a.hasPref with
  | true=>exact .inl rfl
  | false=>exact .inr (h5 e)
theorem rightA_path {a:Attrs} {l:List Leg} (h:rightA a=true) (hp:pathOk l=true):rightA { a with path:=l }=true:=by
 obtain⟨h1,_,h3,h4,h5,h6,h7⟩:=rightA_parts h
 exact rightA_of h1 hp h3 h4 h5 h6 h7
theorem lengthOf_cons (p:Leg) (l:List Leg):lengthOf (p :: l)=lenOf p + lengthOf l:=by simp[lengthOf]
theorem prePath_len {l:List Leg} {x:UInt32} {n:Nat}:lengthOf (prePath l x n)=lengthOf l + n:=by
 unfold prePath
 split
 ·rename_i ns r
  rw[lengthOf_cons,lengthOf_cons]
  simp[lenOf];omega
 ·rw[lengthOf_cons]
  simp[lenOf];omega
theorem prePath_first {l:List Leg} {x:UInt32} {n:Nat} (hn:0 < n):hasA (prePath l x n) x=true∧∃ns r,prePath l x n=⟨false,x :: ns⟩ :: r:=by
 obtain⟨m,rfl⟩:∃m,n=m + 1:=⟨n - 1,by omega⟩
 unfold prePath
 split
 ·rename_i ns r
  exact⟨by simp[hasA,hasN,List.replicate_succ],_,_,by rw[List.replicate_succ];rfl⟩
 ·exact⟨by simp[hasA,hasN,List.replicate_succ],_,_,by rw[List.replicate_succ]⟩
theorem prep_fine {a:Attrs} {x:UInt32} {n:Int} (he:prepE a x n=0):rightA a=true∧0≤n∧n≤8∧rightA (prepA a x n)=true∧lengthOf (prepA a x n).path=lengthOf a.path + n.toNat∧(0 < n→firstOf (prepA a x n)=x∧hasA (prepA a x n).path x=true)∧{ prepA a x n with path:=a.path }=a:=by
 cases hb:badPre a x n with
 | true=>simp[prepE,hb]at he
 | false=>
  obtain⟨h,_,h0,h8⟩:=badPre_no hb
  by_cases hz:n=0
  ·subst hz
   have:prepA a x 0=a:=by simp[prepA,he]
   rw[this]
   exact⟨h,h0,h8,h,by simp,fun h=>absurd h (by omega),rfl⟩
  ·have hp:pathOk (prePath a.path x n.toNat)=true:=by
    simp only[prepE,hb,hz,if_false,Bool.false_eq_true]at he
    split at he
    ·assumption
    ·cases he
   have e:prepA a x n={ a with path:=prePath a.path x n.toNat }:=by simp[prepA,he,hz]
   rw[e]
   refine⟨h,h0,h8,rightA_path h hp,prePath_len,fun hn=>?_,rfl⟩
   obtain⟨h1,ns,r,h2⟩:=prePath_first (l:=a.path) (x:=x) (n:=n.toNat) (by omega)
   refine⟨?_,h1⟩
   show firstOf { a with path:=prePath a.path x n.toNat }=x
   rw[h2];rfl
section
open Go.ChangeShapes Go.WideShapes
open Go.Proofs.Tryz (prog)
theorem rep_words:RepOk prog 33 (fun l:List UInt32=>[encW false l]):=
 rep_slice (cells:=fun x:UInt32=>[.int .u32 x.toNat]) Go.Proofs.Tryz.underlying33 (by kernel_rfl) (by decide) (fun _=>rfl) (rep_u32 Go.Proofs.Tryz.underlying22)
theorem vrs_join {G:Gh} {w:World} {vs:List V} {us:List Value} {v:V} {k n:Nat} (h:vrs G w vs (us.take n)) (hv:vrs G w [v] ((us.drop k).take 1)) (hk:k=n) (hn:n < us.length):vrs G w (vs ++ [v]) (us.take (n + 1)):=by
 subst hk
 rw[List.take_succ_eq_append_getElem hn]
 refine h.append ?_
 rw[List.drop_eq_getElem_cons hn,List.take_succ_cons,List.take_zero]at hv
 exact hv
theorem one_join {us:List Value} {k n:Nat} (h:∀u∈us.take n,u.oneCell'=true) (hv:∀u∈(us.drop k).take 1,u.oneCell'=true) (hk:k=n) (hn:n < us.length):∀u∈us.take (n + 1),u.oneCell'=true:=by
 subst hk
 rw[List.take_succ_eq_append_getElem hn]
 intro u hu
 rcases List.mem_append.1 hu with hu|hu
 ·exact h u hu
 ·refine hv u ?_
  rw[List.drop_eq_getElem_cons hn,List.take_succ_cons,List.take_zero]
  exact hu
theorem vrs_take0 {G:Gh} {w:World} {us:List Value}:vrs G w [] (us.take 0):=by simp[vrs]
theorem field_at {H:Type} {enc:TypeId × Value→H} {w:World} {sp:Nat→Bool} {t:TypeId} {fs:Array Field} {fuel:Nat} {cs:List Value} {x:DataW H × List MemPlace} (ht:prog.underlying t=some (.struct fs)) (h:DataW.trod enc prog w 0 sp true fuel t cs=some x)
  (i:Nat) {f:Field} (hf:fs[i]? = some f) {α:Type} {cells:α→List V} (he:RepOk prog f.type cells) (ho:f.offset=i) (hz:prog.cellsOf f.type=1):∃a,vrs (G0 w) w (cells a) ((cs.drop i).take 1)∧∀u∈(cs.drop i).take 1,u.oneCell'=true:=by
 have:=field_of ht h hf he
 rw[ho,hz]at this
 exact this
theorem rep_leg:RepOk prog 91 (encLeg false):=fun enc w sp fuel cs x h=>by
 have ht:=Go.Proofs.Tryz.underlying91
 obtain⟨xs,n,_,_,hlen,_,_⟩:=DataW.trod_struct ht h
 have hl:cs.length=2:=hlen.trans (by kernel_rfl)
 obtain⟨b,h0,o0⟩:=field_at ht h 0 rfl (rep_bool Go.Proofs.Tryz.underlying4) rfl (by kernel_rfl)
 obtain⟨l,h1,o1⟩:=field_at ht h 1 rfl rep_words rfl (by kernel_rfl)
 have j1:=vrs_join (vrs_join vrs_take0 h0 rfl (by omega)) h1 rfl (by omega)
 have k1:=one_join (one_join (by simp) o0 rfl (by omega)) o1 rfl (by omega)
 rw[List.take_of_length_le (by omega)]at j1 k1
 exact⟨⟨b,l⟩,j1,k1⟩
theorem rep_legs:RepOk prog 32 (fun l:List Leg=>[encLegs false l]):=
 rep_slice (cells:=encLeg false) Go.Proofs.Tryz.underlying32 (by kernel_rfl) (by decide) (fun _=>rfl) rep_leg
theorem rep_attrs:RepOk prog 35 (cellsA false):=fun enc w sp fuel cs x h=>by
 have ht:=Go.Proofs.Tryz.underlying35
 obtain⟨xs,n,_,_,hlen,_,_⟩:=DataW.trod_struct ht h
 have hl:cs.length=8:=hlen.trans (by kernel_rfl)
 obtain⟨a0,h0,o0⟩:=field_at ht h 0 rfl (rep_u8 Go.Proofs.Tryz.underlying5) rfl (by kernel_rfl)
 obtain⟨a1,h1,o1⟩:=field_at ht h 1 rfl rep_legs rfl (by kernel_rfl)
 obtain⟨a2,h2,o2⟩:=field_at ht h 2 rfl (rep_u32 Go.Proofs.Tryz.underlying22) rfl (by kernel_rfl)
 obtain⟨a3,h3,o3⟩:=field_at ht h 3 rfl (rep_bool Go.Proofs.Tryz.underlying4) rfl (by kernel_rfl)
 obtain⟨a4,h4,o4⟩:=field_at ht h 4 rfl (rep_u32 Go.Proofs.Tryz.underlying22) rfl (by kernel_rfl)
 obtain⟨a5,h5,o5⟩:=field_at ht h 5 rfl (rep_bool Go.Proofs.Tryz.underlying4) rfl (by kernel_rfl)
 obtain⟨a6,h6,o6⟩:=field_at ht h 6 rfl (rep_u32 Go.Proofs.Tryz.underlying22) rfl (by kernel_rfl)
 obtain⟨a7,h7,o7⟩:=field_at ht h 7 rfl rep_words rfl (by kernel_rfl)
 have j:=vrs_join (vrs_join (vrs_join (vrs_join (vrs_join (vrs_join (vrs_join (vrs_join vrs_take0 h0 rfl (by omega)) h1 rfl (by omega)) h2 rfl (by omega)) h3 rfl (by omega)) h4 rfl (by omega)) h5 rfl (by omega)) h6 rfl (by omega)) h7 rfl (by omega)
 have k:=one_join (one_join (one_join (one_join (one_join (one_join (one_join (one_join (by simp) o0 rfl (by omega)) o1 rfl (by omega)) o2 rfl (by omega)) o3 rfl (by omega)) o4 rfl (by omega)) o5 rfl (by omega)) o6 rfl (by omega)) o7 rfl (by omega)
 rw[List.take_of_length_le (by omega)]at j k
 exact⟨⟨a0,a1,a2,a3,a4,a5,a6,a7⟩,j,k⟩
theorem laidOut:laidOutB prog=true:=by kernel_rfl
theorem own:ownKnob prog.godebug=none:=by kernel_rfl
end
section
open Go.Proofs.Tryz (prog)
structure Prefix where
 addr:UInt32
 len:UInt8
deriving DecidableEq
structure Rule where
 cover:Prefix
 least:UInt8
 most:UInt8
 hasTag:Bool
 tag:UInt32
 sys:UInt32
 deny:Bool
 hasPref:Bool
 hasMed:Bool
 hasAdd:Bool
 pref:UInt32
 med:UInt32
 add:UInt32
 times:UInt8
deriving DecidableEq
structure Policy where
 rules:List Rule
 els:Bool
deriving DecidableEq
def cellsP (p:Prefix):List V:=[cW p.addr,cB p.len]
def encP (p:Prefix):V:=.agg (cellsP p)
def cellsRu (r:Rule):List V:=[cW r.cover.addr,cB r.cover.len,cB r.least,cB r.most,.bool r.hasTag,cW r.tag,cW r.sys,.bool r.deny,.bool r.hasPref,.bool r.hasMed,.bool r.hasAdd,cW r.pref,cW r.med,cW r.add,cB r.times]
def encRu (r:Rule):V:=.agg (cellsRu r)
abbrev rowsRu (l:List Rule):List (List V):=l.map cellsRu
def encRus (fr:Bool) (l:List Rule):V:=.sl fr 15 (rowsRu l)
def cellsPo (fr:Bool) (p:Policy):List V:=[encRus fr p.rules,.bool p.els]
def encPo (fr:Bool) (p:Policy):V:=.agg (cellsPo fr p)
theorem cellsP_free (p:Prefix):∀v∈cellsP p,Free v:=by
 intro v hv
 simp only[cellsP,List.mem_cons,List.not_mem_nil,or_false]at hv
 rcases hv with rfl|rfl<;>exact .int
theorem encP_free (p:Prefix):Free (encP p):=.agg (cellsP_free p)
theorem encP_cold (p:Prefix):Cold (encP p):=.agg (by
 intro v hv
 simp only[cellsP,List.mem_cons,List.not_mem_nil,or_false]at hv
 rcases hv with rfl|rfl<;>exact .int)
theorem cellsRu_all (r:Rule):∀v∈cellsRu r,Free v∧Cold v∧Fresh v:=by
 intro v hv
 simp only[cellsRu,List.mem_cons,List.not_mem_nil,or_false]at hv
 rcases hv with rfl|rfl|rfl|rfl|rfl|rfl|rfl|rfl|rfl|rfl|rfl|rfl|rfl|rfl|rfl<;>first|exact⟨.int,.int,.int⟩|exact⟨.bool,.bool,.bool⟩
theorem cellsRu_free (r:Rule):∀v∈cellsRu r,Free v:=fun v hv=>(cellsRu_all r v hv).1
theorem encRu_free (r:Rule):Free (encRu r):=.agg (cellsRu_free r)
theorem rowsRu_all (l:List Rule):∀x∈rowsRu l,∀v∈x,Free v∧Cold v∧Fresh v:=by
 intro x hx v hv
 obtain⟨r,_,rfl⟩:=List.mem_map.1 hx
 exact cellsRu_all r v hv
theorem rowsRu_free (l:List Rule):∀x∈rowsRu l,∀v∈x,Free v:=fun x hx v hv=>(rowsRu_all l x hx v hv).1
theorem encRus_free (fr:Bool) (l:List Rule):Free (encRus fr l):=.sl (rowsRu_free l)
theorem encRus_cold (l:List Rule):Cold (encRus false l):=.sl fun x hx v hv=>(rowsRu_all l x hx v hv).2.1
theorem cellsPo_free (fr:Bool) (p:Policy):∀v∈cellsPo fr p,Free v:=by
 intro v hv
 simp only[cellsPo,List.mem_cons,List.not_mem_nil,or_false]at hv
 rcases hv with rfl|rfl
 ·exact encRus_free _ _
 ·exact .bool
theorem encPo_free (fr:Bool) (p:Policy):Free (encPo fr p):=.agg (cellsPo_free fr p)
instance {p}:FreeLI (cellsP p):=⟨⟨cellsP_free p⟩⟩
instance {p}:FreeI (encP p):=⟨⟨encP_free p⟩⟩
instance {r}:FreeLI (cellsRu r):=⟨⟨cellsRu_free r⟩⟩
instance {r}:FreeI (encRu r):=⟨⟨encRu_free r⟩⟩
instance {l:List Rule}:FreeRI (l.map cellsRu):=⟨⟨rowsRu_free l⟩⟩
instance {fr l}:FreeI (encRus fr l):=⟨⟨encRus_free fr l⟩⟩
instance {fr p}:FreeLI (cellsPo fr p):=⟨⟨cellsPo_free fr p⟩⟩
instance {fr p}:FreeI (encPo fr p):=⟨⟨encPo_free fr p⟩⟩
theorem idxRu {l:List Rule} {i:Nat} (h:i < l.length):(l.map cellsRu)[(i:Int).toNat]? = some (cellsRu l[i]):=by simp[h]
def hostN (p:Prefix):Nat:=32 - p.len.toNat
def prefOk (p:Prefix):Bool:=decide ((p.len.toNat:Int)≤32)&& decide (p.addr.toNat % 2 ^ hostN p=0)
def coversP (p q:Prefix):Bool:=prefOk p && prefOk q && decide ((p.len.toNat:Int)≤(q.len.toNat:Int))&& decide (q.addr.toNat / 2 ^ hostN p=p.addr.toNat / 2 ^ hostN p)
def maskN (k:Nat):Nat:=2 ^ 32 - 2 ^ k
theorem mask_shift {k:Nat} (h:k≤32):maskN k=(2 ^ (32 - k) - 1) <<< k:=by
 rw[maskN,Nat.shiftLeft_eq,Nat.sub_mul,← Nat.pow_add,Nat.one_mul]
 congr 2
 omega
theorem and_mask {x k:Nat} (hx:x < 2 ^ 32) (h:k≤32):x &&& maskN k=x / 2 ^ k * 2 ^ k:=by
 rw[mask_shift h,← Nat.shiftLeft_eq,← Nat.shiftRight_eq_div_pow]
 apply Nat.eq_of_testBit_eq
 intro i
 simp only[Nat.testBit_and,Nat.testBit_shiftLeft,Nat.testBit_two_pow_sub_one,Nat.testBit_shiftRight]
 by_cases hk:k≤i
 ·rw[show k + (i - k)=i by omega]
  by_cases hi:i < 32
  ·simp[hk,show i - k < 32 - k by omega]
  ·have:x.testBit i=false:=Nat.testBit_lt_two_pow (Nat.lt_of_lt_of_le hx (Nat.pow_le_pow_right (by decide) (by omega)))
   simp[this]
 ·simp[hk]
theorem mask_lt (k:Nat):maskN k < 2 ^ 32:=Nat.sub_lt (by decide) (Nat.two_pow_pos k)
theorem bits_and_mask (x:UInt32) {k:Nat} (h:k≤32):bits .and .u32 (x.toNat:Int) ((maskN k:Nat):Int)=((x.toNat / 2 ^ k * 2 ^ k:Nat):Int):=by
 rw[(bits_nat .u32 32 (by decide) (fun n h0 h1=>by rw[wrap32];omega) x.toNat (maskN k) x.toNat_lt (mask_lt k)).1,and_mask x.toNat_lt h]
theorem bits_andNot_mask (x:UInt32) {k:Nat} (h:k≤32):bits .andNot .u32 (x.toNat:Int) ((maskN k:Nat):Int)=((x.toNat % 2 ^ k:Nat):Int):=by
 have hx:x.toNat % 2 ^ IntKind.u32.bits=x.toNat:=Nat.mod_eq_of_lt x.toNat_lt
 have hm:maskN k % 2 ^ IntKind.u32.bits=maskN k:=Nat.mod_eq_of_lt (mask_lt k)
 have hk:2 ^ k≤2 ^ 32:=Nat.pow_le_pow_right (by decide) h
 have hn:2 ^ IntKind.u32.bits - 1 - maskN k=2 ^ k - 1:=by
  have:2 ^ IntKind.u32.bits=2 ^ 32:=rfl
  have hp:=Nat.two_pow_pos k
  rw[this,maskN];omega
 have hlt:x.toNat % 2 ^ k≤x.toNat:=Nat.mod_le _ _
 have hx2:=x.toNat_lt
 simp only[bits,BitVec.ofInt_natCast,BitVec.toNat_and,BitVec.toNat_not,BitVec.toNat_ofNat,hx,hm,hn]
 rw[Nat.and_two_pow_sub_one_eq_mod,wrap32]
 omega
theorem host_le (p:Prefix):hostN p≤32:=by unfold hostN;omega
end
section
open Go.ChangeShapes Go.WideShapes
open Go.Proofs.Tryz (prog)
theorem rep_prefix:RepOk prog 31 cellsP:=fun enc w sp fuel cs x h=>by
 have ht:=Go.Proofs.Tryz.underlying31
 obtain⟨xs,n,_,_,hlen,_,_⟩:=DataW.trod_struct ht h
 have hl:cs.length=2:=hlen.trans (by kernel_rfl)
 obtain⟨b,h0,o0⟩:=field_at ht h 0 rfl (rep_u32 Go.Proofs.Tryz.underlying22) rfl (by kernel_rfl)
 obtain⟨l,h1,o1⟩:=field_at ht h 1 rfl (rep_u8 Go.Proofs.Tryz.underlying5) rfl (by kernel_rfl)
 have j1:=vrs_join (vrs_join vrs_take0 h0 rfl (by omega)) h1 rfl (by omega)
 have k1:=one_join (one_join (by simp) o0 rfl (by omega)) o1 rfl (by omega)
 rw[List.take_of_length_le (by omega)]at j1 k1
 exact⟨⟨b,l⟩,j1,k1⟩
theorem field_on {H:Type} {enc:TypeId × Value→H} {w:World} {sp:Nat→Bool} {t:TypeId} {fs:Array Field} {fuel:Nat} {cs:List Value} {x:DataW H × List MemPlace} (ht:prog.underlying t=some (.struct fs)) (h:DataW.trod enc prog w 0 sp true fuel t cs=some x)
  (i o:Nat) {f:Field} (hf:fs[i]? = some f) {α:Type} {cells:α→List V} (he:RepOk prog f.type cells) (ho:f.offset=o) (hz:prog.cellsOf f.type=1):∃a,vrs (G0 w) w (cells a) ((cs.drop o).take 1)∧∀u∈(cs.drop o).take 1,u.oneCell'=true:=by
 have:=field_of ht h hf he
 rw[ho,hz]at this
 exact this
theorem rep_rule:RepOk prog 132 cellsRu:=fun enc w sp fuel cs x h=>by
 have ht:=Go.Proofs.Tryz.underlying132
 obtain⟨xs,n,_,_,hlen,_,_⟩:=DataW.trod_struct ht h
 have hl:cs.length=15:=hlen.trans (by kernel_rfl)
 obtain⟨c,h0,o0⟩:=field_of ht h (f:=_) (i:=0) rfl rep_prefix
 have hz:prog.cellsOf 31=2:=by kernel_rfl
 change vrs (G0 w) w (cellsP c) ((cs.drop 0).take (prog.cellsOf 31))at h0
 change ∀u∈(cs.drop 0).take (prog.cellsOf 31),u.oneCell'=true at o0
 rw[hz,List.drop_zero]at h0 o0
 obtain⟨a1,h1,o1⟩:=field_on ht h 1 2 rfl (rep_u8 Go.Proofs.Tryz.underlying5) rfl (by kernel_rfl)
 obtain⟨a2,h2,o2⟩:=field_on ht h 2 3 rfl (rep_u8 Go.Proofs.Tryz.underlying5) rfl (by kernel_rfl)
 obtain⟨a3,h3,o3⟩:=field_on ht h 3 4 rfl (rep_bool Go.Proofs.Tryz.underlying4) rfl (by kernel_rfl)
 obtain⟨a4,h4,o4⟩:=field_on ht h 4 5 rfl (rep_u32 Go.Proofs.Tryz.underlying22) rfl (by kernel_rfl)
 obtain⟨a5,h5,o5⟩:=field_on ht h 5 6 rfl (rep_u32 Go.Proofs.Tryz.underlying22) rfl (by kernel_rfl)
 obtain⟨a6,h6,o6⟩:=field_on ht h 6 7 rfl (rep_bool Go.Proofs.Tryz.underlying4) rfl (by kernel_rfl)
 obtain⟨a7,h7,o7⟩:=field_on ht h 7 8 rfl (rep_bool Go.Proofs.Tryz.underlying4) rfl (by kernel_rfl)
 obtain⟨a8,h8,o8⟩:=field_on ht h 8 9 rfl (rep_bool Go.Proofs.Tryz.underlying4) rfl (by kernel_rfl)
 obtain⟨a9,h9,o9⟩:=field_on ht h 9 10 rfl (rep_bool Go.Proofs.Tryz.underlying4) rfl (by kernel_rfl)
 obtain⟨a10,h10,o10⟩:=field_on ht h 10 11 rfl (rep_u32 Go.Proofs.Tryz.underlying22) rfl (by kernel_rfl)
 obtain⟨a11,h11,o11⟩:=field_on ht h 11 12 rfl (rep_u32 Go.Proofs.Tryz.underlying22) rfl (by kernel_rfl)
 obtain⟨a12,h12,o12⟩:=field_on ht h 12 13 rfl (rep_u32 Go.Proofs.Tryz.underlying22) rfl (by kernel_rfl)
 obtain⟨a13,h13,o13⟩:=field_on ht h 13 14 rfl (rep_u8 Go.Proofs.Tryz.underlying5) rfl (by kernel_rfl)
 have j2:=vrs_join h0 h1 rfl (by omega)
 have j3:=vrs_join j2 h2 rfl (by omega)
 have j4:=vrs_join j3 h3 rfl (by omega)
 have j5:=vrs_join j4 h4 rfl (by omega)
 have j6:=vrs_join j5 h5 rfl (by omega)
 have j7:=vrs_join j6 h6 rfl (by omega)
 have j8:=vrs_join j7 h7 rfl (by omega)
 have j9:=vrs_join j8 h8 rfl (by omega)
 have j10:=vrs_join j9 h9 rfl (by omega)
 have j11:=vrs_join j10 h10 rfl (by omega)
 have j12:=vrs_join j11 h11 rfl (by omega)
 have j13:=vrs_join j12 h12 rfl (by omega)
 have j14:=vrs_join j13 h13 rfl (by omega)
 have k2:=one_join o0 o1 rfl (by omega)
 have k3:=one_join k2 o2 rfl (by omega)
 have k4:=one_join k3 o3 rfl (by omega)
 have k5:=one_join k4 o4 rfl (by omega)
 have k6:=one_join k5 o5 rfl (by omega)
 have k7:=one_join k6 o6 rfl (by omega)
 have k8:=one_join k7 o7 rfl (by omega)
 have k9:=one_join k8 o8 rfl (by omega)
 have k10:=one_join k9 o9 rfl (by omega)
 have k11:=one_join k10 o10 rfl (by omega)
 have k12:=one_join k11 o11 rfl (by omega)
 have k13:=one_join k12 o12 rfl (by omega)
 have k14:=one_join k13 o13 rfl (by omega)
 rw[List.take_of_length_le (by omega)]at j14 k14
 exact⟨⟨c,a1,a2,a3,a4,a5,a6,a7,a8,a9,a10,a11,a12,a13⟩,j14,k14⟩
theorem rep_rules:RepOk prog 27 (fun l:List Rule=>[encRus false l]):=
 rep_slice (cells:=cellsRu) Go.Proofs.Tryz.underlying27 (by kernel_rfl) (by decide) (fun _=>rfl) rep_rule
theorem rep_policy:RepOk prog 29 (cellsPo false):=fun enc w sp fuel cs x h=>by
 have ht:=Go.Proofs.Tryz.underlying29
 obtain⟨xs,n,_,_,hlen,_,_⟩:=DataW.trod_struct ht h
 have hl:cs.length=2:=hlen.trans (by kernel_rfl)
 obtain⟨b,h0,o0⟩:=field_at ht h 0 rfl rep_rules rfl (by kernel_rfl)
 obtain⟨l,h1,o1⟩:=field_at ht h 1 rfl (rep_bool Go.Proofs.Tryz.underlying4) rfl (by kernel_rfl)
 have j1:=vrs_join (vrs_join vrs_take0 h0 rfl (by omega)) h1 rfl (by omega)
 have k1:=one_join (one_join (by simp) o0 rfl (by omega)) o1 rfl (by omega)
 rw[List.take_of_length_le (by omega)]at j1 k1
 exact⟨⟨b,l⟩,j1,k1⟩
theorem arg_policy:ArgOk prog 29 (encPo false):=arg_struct Go.Proofs.Tryz.underlying29 rep_policy
theorem read_policy:prog.readableRec 29=true∧29 < prog.types.size:=⟨by kernel_rfl,of_decide_eq_true (by kernel_rfl)⟩
end
section
open Go.Proofs.Tryz (prog)
attribute [local irreducible] CallV RoundV
theorem mask_val {n:Nat} (h:n < 256):IntKind.u32.wrap (IntKind.u64.wrap (4294967296 - IntKind.u64.wrap (1 * 2 ^ (min (IntKind.u8.wrap (32 - (if(32:Int) < n then 32 else(n:Int)))).toNat IntKind.u64.bits))))=((maskN (32 - n):Nat):Int):=by
 have key:∀m:Nat,m≤32→IntKind.u32.wrap (IntKind.u64.wrap (4294967296 - IntKind.u64.wrap (1 * 2 ^ (min (IntKind.u8.wrap (32 - (m:Int))).toNat IntKind.u64.bits))))=((maskN (32 - m):Nat):Int):=by
  intro m hm
  have hm':m=0∨m=1∨m=2∨m=3∨m=4∨m=5∨m=6∨m=7∨m=8∨m=9∨m=10∨m=11∨m=12∨m=13∨m=14∨m=15∨m=16∨m=17∨m=18∨m=19∨m=20∨m=21∨m=22∨m=23∨m=24∨m=25∨m=26∨m=27∨m=28∨m=29∨m=30∨m=31∨m=32:=by omega
  rcases hm' with rfl|rfl|rfl|rfl|rfl|rfl|rfl|rfl|rfl|rfl|rfl|rfl|rfl|rfl|rfl|rfl|rfl|rfl|rfl|rfl|rfl|rfl|rfl|rfl|rfl|rfl|rfl|rfl|rfl|rfl|rfl|rfl|rfl<;>decide
 split
 ·rename_i hn
  have hn:32 < n:=by omega
  rw[show 32 - n=32 - 32 by omega]
  exact key 32 (Nat.le_refl _)
 ·exact key n (by omega)
theorem mask_ok (x:UInt8):PCon prog 140 [cB x] (.int .u32 (maskN (32 - x.toNat):Nat)):=by
 refine callV_of (fn:=Go.Proofs.Tryz.f140) (body:=_) tab_ok mixed rfl rfl (by decide) (by simp[Go.Proofs.Tryz.f140]) ?_
 conv=>whnf
 refine⟨by rw[wrap8];omega,?_⟩
 conv=>whnf
 exact(Ends.pure [] (by repeat' (first|exact True.intro|exact .int_of (mask_val x.toNat_lt)|exact .A|exact LeL.fr rfl|exact LeV.nineA|exact LeV.noA|refine .tupL ?_|refine .aggL ?_|refine⟨?_,?_⟩)) (by simp))
theorem uRight_ok (p:Prefix):PCon prog 90 [encP p] (.bool (prefOk p)):=by
 refine callV_of (fn:=Go.Proofs.Tryz.f90) (body:=_) tab_ok mixed rfl rfl (by decide) (by simp[Go.Proofs.Tryz.f90]) ?_
 conv=>whnf
 cases h:decide ((p.len.toNat:Int)≤32)with
 | false=>
  conv=>whnf
  refine⟨by kernel_rfl,?_⟩
  conv=>whnf
  exact(Ends.pure [] (by repeat' (first|exact True.intro|exact .bool_of (by simp[prefOk,h])|exact .A|exact LeL.fr rfl|exact LeV.nineA|exact LeV.noA|refine .tupL ?_|refine .aggL ?_|refine⟨?_,?_⟩)) (by simp))
 | true=>
  conv=>whnf
  refine⟨_,[],fun h nx _=>pureV_pure (mask_ok p.len) ⟨.free .int,trivial⟩,by simp,?_⟩
  conv=>whnf
  refine⟨by kernel_rfl,?_⟩
  conv=>whnf
  refine(Ends.pure [] (by repeat' (first|exact True.intro|exact .bool_of (by rw[prefOk,h,show 32 - p.len.toNat=hostN p from rfl,bits_andNot_mask _ (host_le p),Bool.true_and];rw[Bool.eq_iff_iff];simp only[beq_iff_eq,decide_eq_true_eq];omega)|exact .A|exact LeL.fr rfl|exact LeV.nineA|exact LeV.noA|refine .tupL ?_|refine .aggL ?_|refine⟨?_,?_⟩)) (by simp))
theorem cover_eq {p q:Prefix} (h:prefOk p=true):decide (q.addr.toNat / 2 ^ hostN p=p.addr.toNat / 2 ^ hostN p)=(((q.addr.toNat / 2 ^ hostN p * 2 ^ hostN p:Nat):Int) == (p.addr.toNat:Int)):=by
 simp only[prefOk,Bool.and_eq_true,decide_eq_true_eq]at h
 have hd:=Nat.div_add_mod p.addr.toNat (2 ^ hostN p)
 rw[h.2,Nat.add_zero,Nat.mul_comm]at hd
 rw[Bool.eq_iff_iff]
 simp only[decide_eq_true_eq,beq_iff_eq]
 constructor
 ·intro e;rw[e,hd]
 ·intro e
  have e:q.addr.toNat / 2 ^ hostN p * 2 ^ hostN p=p.addr.toNat:=by omega
  rw[← hd]at e
  exact Nat.mul_right_cancel (Nat.two_pow_pos _) e
theorem uCovers_ok (p q:Prefix):PCon prog 248 [encP p,encP q] (.bool (coversP p q)):=by
 refine callV_of (fn:=Go.Proofs.Tryz.f248) (body:=_) tab_ok mixed rfl rfl (by decide) (by simp[Go.Proofs.Tryz.f248]) ?_
 conv=>whnf
 refine⟨_,[],fun h nx _=>pureV_pure (uRight_ok p) ⟨.free (encP_free _),trivial⟩,by simp,?_⟩
 cases h1:prefOk p with
 | false=>
  conv=>whnf
  refine⟨by kernel_rfl,?_⟩
  conv=>whnf
  exact(Ends.pure [] (by repeat' (first|exact True.intro|exact .bool_of (by simp[coversP,h1])|exact .A|exact LeL.fr rfl|exact LeV.nineA|exact LeV.noA|refine .tupL ?_|refine .aggL ?_|refine⟨?_,?_⟩)) (by simp))
 | true=>
 conv=>whnf
 refine⟨_,[],fun h nx _=>pureV_pure (uRight_ok q) ⟨.free (encP_free _),trivial⟩,by simp,?_⟩
 cases h2:prefOk q with
 | false=>
  conv=>whnf
  refine⟨by kernel_rfl,?_⟩
  conv=>whnf
  exact(Ends.pure [] (by repeat' (first|exact True.intro|exact .bool_of (by simp[coversP,h1,h2])|exact .A|exact LeL.fr rfl|exact LeV.nineA|exact LeV.noA|refine .tupL ?_|refine .aggL ?_|refine⟨?_,?_⟩)) (by simp))
 | true=>
 conv=>whnf
 cases h3:decide ((p.len.toNat:Int)≤(q.len.toNat:Int))with
 | false=>
  conv=>whnf
  refine⟨by kernel_rfl,?_⟩
  conv=>whnf
  exact(Ends.pure [] (by repeat' (first|exact True.intro|exact .bool_of (by simp only[coversP,h1,h2,h3];rfl)|exact .A|exact LeL.fr rfl|exact LeV.nineA|exact LeV.noA|refine .tupL ?_|refine .aggL ?_|refine⟨?_,?_⟩)) (by simp))
 | true=>
 conv=>whnf
 refine⟨_,[],fun h nx _=>pureV_pure (mask_ok p.len) ⟨.free .int,trivial⟩,by simp,?_⟩
 conv=>whnf
 refine⟨by kernel_rfl,?_⟩
 conv=>whnf
 exact(Ends.pure [] (by repeat' (first|exact True.intro|exact .bool_of (by rw[coversP,h1,h2,h3,show 32 - p.len.toNat=hostN p from rfl,bits_and_mask _ (host_le p),cover_eq h1];rfl)|exact .A|exact LeL.fr rfl|exact LeV.nineA|exact LeV.noA|refine .tupL ?_|refine .aggL ?_|refine⟨?_,?_⟩)) (by simp))
end
section
open Go.Proofs.Tryz (prog)
attribute [local irreducible] CallV RoundV
def ruleOk (r:Rule):Bool:=prefOk r.cover && decide ((r.least.toNat:Int)≤r.most.toNat)&& decide ((r.most.toNat:Int)≤32)&& decide ((r.times.toNat:Int)≤8)&& (r.hasTag || r.tag == 0)&& (r.hasPref || r.pref == 0)&& (r.hasMed || r.med == 0)&& (r.hasAdd || r.add == 0)&& !(r.deny && (r.hasPref || r.hasMed || r.hasAdd || decide ((0:Int) < r.times.toNat)))
theorem either_ok (b:Bool) (x:UInt32):PCon prog 119 [.bool b,cW x] (.bool (b || x == 0)):=by
 refine callV_of (fn:=Go.Proofs.Tryz.f119) (body:=_) tab_ok mixed rfl rfl (by decide) (by simp[Go.Proofs.Tryz.f119]) ?_
 conv=>whnf
 cases b with
 | true=>
  conv=>whnf
  exact(Ends.pure [] (by first|exact .A|exact LeL.fr rfl|exact LeV.nineA|exact LeV.noA) (by simp))
 | false=>
  conv=>whnf
  exact(Ends.pure [] (by repeat' (first|exact True.intro|exact .bool_of (by rw[u32_eq];rfl)|exact .A|exact LeL.fr rfl|exact LeV.nineA|exact LeV.noA|refine .tupL ?_|refine .aggL ?_|refine⟨?_,?_⟩)) (by simp))
theorem right23_ok (r:Rule):PCon prog 67 [encRu r] (.bool (ruleOk r)):=by
 have fin:∀{s:St} {b:Bool},ruleOk r=b→∃v1 h' nx',Ends 0 s (.bool b) v1 h' nx'∧(v1=.bool (ruleOk r)∧h'=[]∧nx'=0):=fun h=>Ends.pure [] (.bool_of h.symm) (by simp)
 obtain⟨⟨ca,cl⟩,least,most,hasTag,tag,sys,deny,hasPref,hasMed,hasAdd,pref,med,add,times⟩:=r
 refine callV_of (fn:=Go.Proofs.Tryz.f67) (body:=_) tab_ok mixed rfl rfl (by decide) (by simp[Go.Proofs.Tryz.f67]) ?_
 conv=>whnf
 repeat' first
  | refine fin ?_
  | (split<;>(conv=>whnf))
  | (refine callV_pure (uRight_ok ⟨ca,cl⟩) ⟨.free (encP_free _),trivial⟩ ?_;(conv=>whnf))
  | (refine callV_pure (either_ok hasTag tag) ⟨.free .bool,.free .int,trivial⟩ ?_;(conv=>whnf))
  | (refine callV_pure (either_ok hasPref pref) ⟨.free .bool,.free .int,trivial⟩ ?_;(conv=>whnf))
  | (refine callV_pure (either_ok hasMed med) ⟨.free .bool,.free .int,trivial⟩ ?_;(conv=>whnf))
  | (refine callV_pure (either_ok hasAdd add) ⟨.free .bool,.free .int,trivial⟩ ?_;(conv=>whnf))
 all_goals clear fin
 all_goals (try simp_all[ruleOk])
 all_goals (try (intros;exfalso;omega))
theorem check1_ok (r:Rule):PCon prog 66 [encRu r] (.bool (!ruleOk r)):=by
 refine callV_of (fn:=Go.Proofs.Tryz.f66) (body:=_) tab_ok mixed rfl rfl (by decide) (by simp[Go.Proofs.Tryz.f66]) ?_
 conv=>whnf
 refine callV_pure (right23_ok r) ⟨.free (encRu_free _),trivial⟩ ?_
 conv=>whnf
 exact(Ends.pure [] (by first|exact .A|exact LeL.fr rfl|exact LeV.nineA|exact LeV.noA) (by simp))
def fnC1:V:=.fn (.func 66) [] []
theorem fnC1_free:Free fnC1:=.fn (by simp) (by simp)
theorem indexRu_ok (fr:Bool) (l:List Rule):∃n:Int,PCon prog 118 [encRus fr l,fnC1] (.int .i64 n)∧(0≤n↔l.all ruleOk=false):=by
 refine⟨if l.all ruleOk then -1 else(l.findIdx (!ruleOk ·):Nat),?_,by split<;>rename_i h<;>simp[h]⟩
 refine callV_of (fn:=Go.Proofs.Tryz.f118) (body:=_) tab_ok mixed rfl rfl (by decide) (by simp[Go.Proofs.Tryz.f118]) ?_
 conv=>whnf
 intro hl
 have hl:l.length≤maxLen:=by simpa[gd]using hl
 conv=>whnf
 refine vcg_loop tab_ok mixed (fun i:{i:Nat // i≤l.length∧(l.take i).all ruleOk=true}=>⟨[(0,encRus fr l),(1,fnC1),(7,cI l.length),(8,cI i.1)],[],0⟩) (fun i=>l.length - i.1) ⟨0,by omega,rfl⟩ (Wk.i (by repeat' (first|exact LHa|exact .free fnC1_free|exact .int_of (by simp)|exact .A|exact LeL.fr rfl|exact LeV.nineA|exact LeV.noA|exact LHb|refine Or.inl ⟨by simp,_,rfl,?_⟩|exact Or.inr ⟨by simp,_,_,_,_,rfl⟩|refine⟨rfl,rfl,rfl,rfl,rfl,rfl,?_⟩|refine⟨?_,?_⟩)) (by omega)) (fun i=>?_)
 obtain⟨i,hi,hz⟩:=i
 conv=>whnf
 split
 ·rename_i hc
  have hc:i < l.length:=by simpa using hc
  conv=>whnf
  refine⟨rfl,_,⟨by simp only;omega,idxRu hc⟩,?_⟩
  conv=>whnf
  refine callV_pure (check1_ok l[i]) ⟨.free (encRu_free _),trivial⟩ ?_
  conv=>whnf
  split
  ·rename_i h1
   have h1:ruleOk l[i]=false:=by simpa using h1
   have:=all_false (p:=ruleOk) hc h1
   conv=>whnf
   refine(Ends.pure [] (by repeat' (first|exact True.intro|exact .int_of (by rw[if_neg (by rw[this];simp)];congr 1;symm;rw[List.findIdx_eq hc];refine⟨by simp[h1],fun j hj=>?_⟩;rw[List.all_eq_true]at hz;have:=hz (l[j]'(by omega)) (by rw[List.mem_take_iff_getElem];exact⟨j,by omega,rfl⟩);simpa using this)|exact .A|exact LeL.fr rfl|exact LeV.nineA|exact LeV.noA|refine .tupL ?_|refine .aggL ?_|refine⟨?_,?_⟩)) (by simp))
  ·rename_i h1
   conv=>whnf
   exact⟨⟨i + 1,by omega,by rw[all_take_succ hc,hz];simpa using h1⟩,(Wk.i (by repeat' (first|exact LHa|exact .free fnC1_free|exact .int_of (wrap64_succ hc hl)|exact .A|exact LeL.fr rfl|exact LeV.nineA|exact LeV.noA|exact LHb|refine Or.inl ⟨by simp,_,rfl,?_⟩|exact Or.inr ⟨by simp,_,_,_,_,rfl⟩|refine⟨rfl,rfl,rfl,rfl,rfl,rfl,?_⟩|refine⟨?_,?_⟩)) (by omega)),by simp only;omega⟩
 ·rename_i hc
  have hc:i=l.length:=by simp at hc;omega
  subst hc
  conv=>whnf
  refine(Ends.pure [] (by repeat' (first|exact True.intro|exact .int_of (by rw[List.take_length]at hz;rw[if_pos hz])|exact .A|exact LeL.fr rfl|exact LeV.nineA|exact LeV.noA|refine .tupL ?_|refine .aggL ?_|refine⟨?_,?_⟩)) (by simp))
theorem containsRu_ok (fr:Bool) (l:List Rule):PCon prog 65 [encRus fr l,fnC1] (.bool (!l.all ruleOk)):=by
 obtain⟨n,hn,hiff⟩:=indexRu_ok fr l
 refine callV_of (fn:=Go.Proofs.Tryz.f65) (body:=_) tab_ok mixed rfl rfl (by decide) (by simp[Go.Proofs.Tryz.f65]) ?_
 conv=>whnf
 refine callV_pure hn ⟨.free (encRus_free _ _),.free fnC1_free,trivial⟩ ?_
 conv=>whnf
 refine(Ends.pure [] (by repeat' (first|exact True.intro|exact .bool_of (by cases hb:l.all ruleOk with|true=>rw[hb]at hiff;simp at hiff;simp;omega|false=>have:=hiff.2 hb;simp;omega)|exact .A|exact LeL.fr rfl|exact LeV.nineA|exact LeV.noA|refine .tupL ?_|refine .aggL ?_|refine⟨?_,?_⟩)) (by simp))
def checkP (p:Policy):Int:=if p.rules.all ruleOk=false then 2 else if 16 < p.rules.length then 3 else 0
theorem check23_ok (fr:Bool) (p:Policy):PCon prog 33 [encPo fr p] (.int .i64 (checkP p)):=by
 refine callV_of (fn:=Go.Proofs.Tryz.f33) (body:=_) tab_ok mixed rfl rfl (by decide) (by simp[Go.Proofs.Tryz.f33]) ?_
 conv=>whnf
 refine callV_pure (containsRu_ok fr p.rules) ⟨.free (encRus_free _ _),.free fnC1_free,trivial⟩ ?_
 cases h:p.rules.all ruleOk with
 | false=>
  conv=>whnf
  exact(Ends.pure [] (by repeat' (first|exact True.intro|exact .int_of (by simp[checkP,h])|exact .A|exact LeL.fr rfl|exact LeV.nineA|exact LeV.noA|refine .tupL ?_|refine .aggL ?_|refine⟨?_,?_⟩)) (by simp))
 | true=>
  conv=>whnf
  intro _
  conv=>whnf
  split
  ·rename_i h16
   conv=>whnf
   exact(Ends.pure [] (by repeat' (first|exact True.intro|exact .int_of (by simp only[checkP,h];simp at h16;rw[if_neg (by simp),if_pos (by omega)])|exact .A|exact LeL.fr rfl|exact LeV.nineA|exact LeV.noA|refine .tupL ?_|refine .aggL ?_|refine⟨?_,?_⟩)) (by simp))
  ·rename_i h16
   conv=>whnf
   exact(Ends.pure [] (by repeat' (first|exact True.intro|exact .int_of (by simp only[checkP,h];simp at h16;rw[if_neg (by simp),if_neg (by omega)])|exact .A|exact LeL.fr rfl|exact LeV.nineA|exact LeV.noA|refine .tupL ?_|refine .aggL ?_|refine⟨?_,?_⟩)) (by simp))
end
section
open Go.Proofs.Tryz (prog)
attribute [local irreducible] CallV RoundV
def tagB (r:Rule) (a:Attrs):Bool:=!r.hasTag || a.tags.contains r.tag
def sysB (r:Rule) (a:Attrs):Bool:=r.sys == 0 || hasA a.path r.sys
def lenB (r:Rule) (p:Prefix):Bool:=decide ((r.least.toNat:Int)≤p.len.toNat)&& decide ((p.len.toNat:Int)≤r.most.toNat)
def askB (r:Rule) (p:Prefix) (a:Attrs):Nat→Bool
 | 0=>ruleOk r
 | 1=>prefOk p && rightA a
 | 2=>coversP r.cover p
 | 3=>lenB r p
 | 4=>tagB r a
 | _=>sysB r a
def fits (r:Rule) (p:Prefix) (a:Attrs):Bool:=ruleOk r && (prefOk p && rightA a)&& coversP r.cover p && lenB r p && tagB r a && sysB r a
theorem fits_all {r:Rule} {p:Prefix} {a:Attrs} (h:∀k,k < 6→askB r p a k=true):fits r p a=true:=by
 have h0:=h 0 (by omega)
 have h1:=h 1 (by omega)
 have h2:=h 2 (by omega)
 have h3:=h 3 (by omega)
 have h4:=h 4 (by omega)
 have h5:=h 5 (by omega)
 simp only[askB]at h0 h1 h2 h3 h4 h5
 simp only[fits,h0,h1,h2,h3,h4,h5];rfl
theorem fits_not {r:Rule} {p:Prefix} {a:Attrs} {k:Nat} (hk:k < 6) (h:askB r p a k=false):fits r p a=false:=by
 rcases k with _|_|_|_|_|_|k
 ·simp only[askB]at h;simp[fits,h]
 ·simp only[askB]at h;simp only[fits,h];simp
 ·simp only[askB]at h;simp[fits,h]
 ·simp only[askB]at h;simp[fits,h]
 ·simp only[askB]at h;simp[fits,h]
 ·simp only[askB]at h;simp[fits,h]
 ·omega
theorem contains_all {l:List UInt32} {x:UInt32}:(!l.all (· != x))=l.contains x:=by
 rw[List.contains_eq_any_beq]
 induction l with
 | nil=>rfl
 | cons y l ih=>
  simp only[List.all_cons,List.any_cons,Bool.not_and,ih]
  rw[show(!(y != x))=(x == y)by rw[bne,Bool.not_not];exact BEq.comm]
def asksRows (fr:Bool) (r:Rule) (p:Prefix) (a:Attrs):List (List V):=[
 [.fn (.func 245) [] [.iptr true (cellsRu r)]],
 [.fn (.func 246) [] [.iptr true (cellsP p),.iptr true (cellsA fr a)]],
 [.fn (.func 247) [] [.iptr true (cellsRu r),.iptr true (cellsP p)]],
 [.fn (.func 249) [] [.iptr true (cellsRu r),.iptr true (cellsP p)]],
 [.fn (.func 250) [] [.iptr true (cellsRu r),.iptr true (cellsA fr a)]],
 [.fn (.func 251) [] [.iptr true (cellsRu r),.iptr true (cellsA fr a)]]]
def asksV (fr:Bool) (r:Rule) (p:Prefix) (a:Attrs):V:=.sl true 1 (asksRows fr r p a)
theorem asksRows_free (fr:Bool) (r:Rule) (p:Prefix) (a:Attrs):∀x∈asksRows fr r p a,∀v∈x,Free v:=by
 have h1:Free (.iptr true (cellsRu r)):=.iptr (cellsRu_free r)
 have h2:Free (.iptr true (cellsP p)):=.iptr (cellsP_free p)
 have h3:Free (.iptr true (cellsA fr a)):=.iptr (cellsA_free fr a)
 intro x hx v hv
 simp only[asksRows,List.mem_cons,List.not_mem_nil,or_false]at hx
 rcases hx with rfl|rfl|rfl|rfl|rfl|rfl<;>(simp only[List.mem_singleton]at hv;subst hv;refine .fn (by simp) ?_;intro v hv;simp only[List.mem_cons,List.not_mem_nil,or_false]at hv)
 ·subst hv;exact h1
 ·rcases hv with rfl|rfl;exact h2;exact h3
 ·rcases hv with rfl|rfl;exact h1;exact h2
 ·rcases hv with rfl|rfl;exact h1;exact h2
 ·rcases hv with rfl|rfl;exact h1;exact h3
 ·rcases hv with rfl|rfl;exact h1;exact h3
theorem asksV_free (fr:Bool) (r:Rule) (p:Prefix) (a:Attrs):Free (asksV fr r p a):=.sl (asksRows_free fr r p a)
instance {fr r p a}:FreeI (asksV fr r p a):=⟨⟨asksV_free fr r p a⟩⟩
theorem LeV.fzP {h:Heap} {nx nx':Nat} {ρ:Nat→Nat} {Z:List Nat} {b:Nat} {fr:Bool} {ty:TypeId} {cells:List V} (hz:b∈Z) (hb:hget h b=some (.var fr ty cells)) (hf:∀v∈cells,Free v):LeV h nx ρ nx' Z (.ptr b 0) (.iptr fr cells):=LeV.freezeP (col:=0) hz hb hf
theorem asks_ok (fr:Bool) (r:Rule) (p:Prefix) (a:Attrs):PCon prog 235 [encRu r,encP p,encA fr a] (asksV fr r p a):=by
 refine callV_of (fn:=Go.Proofs.Tryz.f235) (body:=_) tab_ok mixed rfl rfl (by decide) (by simp[Go.Proofs.Tryz.f235]) ?_
 conv=>whnf
 refine Ends.pure [0,1,2,3] (LeV.freezeR (by simp) rfl (Nat.le_refl 6) ⟨⟨.fnL trivial ⟨?_,trivial⟩,trivial⟩,⟨.fnL trivial ⟨?_,?_,trivial⟩,trivial⟩,⟨.fnL trivial ⟨?_,?_,trivial⟩,trivial⟩,⟨.fnL trivial ⟨?_,?_,trivial⟩,trivial⟩,⟨.fnL trivial ⟨?_,?_,trivial⟩,trivial⟩,⟨.fnL trivial ⟨?_,?_,trivial⟩,trivial⟩,trivial⟩) (by intro z hz;simp only[List.mem_cons,List.not_mem_nil,or_false]at hz;rcases hz with rfl|rfl|rfl|rfl<;>exact ne_none_of rfl)
 all_goals first|exact .fzP (by simp) rfl (cellsRu_free r)|exact .fzP (by simp) rfl (cellsP_free p)|exact .fzP (by simp) rfl (cellsA_free fr a)
theorem ask1_ok (fr:Bool) (r:Rule):PCon prog 245 [.iptr true (cellsRu r)] (.bool (ruleOk r)):=by
 refine callV_of (fn:=Go.Proofs.Tryz.f245) (body:=_) tab_ok mixed rfl rfl (by decide) (by simp[Go.Proofs.Tryz.f245]) ?_
 conv=>whnf
 refine callV_pure (right23_ok r) ⟨.free (encRu_free _),trivial⟩ ?_
 conv=>whnf
 exact(Ends.pure [] (by first|exact .A|exact LeL.fr rfl|exact LeV.nineA|exact LeV.noA) (by simp))
theorem ask2_ok (fr:Bool) (p:Prefix) (a:Attrs):PCon prog 246 [.iptr true (cellsP p),.iptr true (cellsA fr a)] (.bool (prefOk p && rightA a)):=by
 refine callV_of (fn:=Go.Proofs.Tryz.f246) (body:=_) tab_ok mixed rfl rfl (by decide) (by simp[Go.Proofs.Tryz.f246]) ?_
 conv=>whnf
 refine callV_pure (uRight_ok p) ⟨.free (encP_free _),trivial⟩ ?_
 cases h:prefOk p with
 | false=>
  conv=>whnf
  exact(Ends.pure [] (by first|exact .A|exact LeL.fr rfl|exact LeV.nineA|exact LeV.noA) (by simp))
 | true=>
  conv=>whnf
  refine callV_pure (check_ok fr a) ⟨.free (encA_free _ _),trivial⟩ ?_
  conv=>whnf
  exact(Ends.pure [] (by repeat' (first|exact True.intro|exact .bool_of (by cases hr:rightA a<;>simp[checkA,hr])|exact .A|exact LeL.fr rfl|exact LeV.nineA|exact LeV.noA|refine .tupL ?_|refine .aggL ?_|refine⟨?_,?_⟩)) (by simp))
theorem ask3_ok (r:Rule) (p:Prefix):PCon prog 247 [.iptr true (cellsRu r),.iptr true (cellsP p)] (.bool (coversP r.cover p)):=by
 refine callV_of (fn:=Go.Proofs.Tryz.f247) (body:=_) tab_ok mixed rfl rfl (by decide) (by simp[Go.Proofs.Tryz.f247]) ?_
 conv=>whnf
 refine callV_pure (uCovers_ok r.cover p) ⟨.free (encP_free _),.free (encP_free _),trivial⟩ ?_
 conv=>whnf
 exact(Ends.pure [] (by first|exact .A|exact LeL.fr rfl|exact LeV.nineA|exact LeV.noA) (by simp))
theorem ask4_ok (r:Rule) (p:Prefix):PCon prog 249 [.iptr true (cellsRu r),.iptr true (cellsP p)] (.bool (lenB r p)):=by
 refine callV_of (fn:=Go.Proofs.Tryz.f249) (body:=_) tab_ok mixed rfl rfl (by decide) (by simp[Go.Proofs.Tryz.f249]) ?_
 conv=>whnf
 cases h:decide ((r.least.toNat:Int)≤(p.len.toNat:Int))with
 | false=>
  conv=>whnf
  exact(Ends.pure [] (by repeat' (first|exact True.intro|exact .bool_of (by simp only[lenB,h];rfl)|exact .A|exact LeL.fr rfl|exact LeV.nineA|exact LeV.noA|refine .tupL ?_|refine .aggL ?_|refine⟨?_,?_⟩)) (by simp))
 | true=>
  conv=>whnf
  exact(Ends.pure [] (by repeat' (first|exact True.intro|exact .bool_of (by simp only[lenB,h];rfl)|exact .A|exact LeL.fr rfl|exact LeV.nineA|exact LeV.noA|refine .tupL ?_|refine .aggL ?_|refine⟨?_,?_⟩)) (by simp))
theorem ask5_ok (fr:Bool) (r:Rule) (a:Attrs):PCon prog 250 [.iptr true (cellsRu r),.iptr true (cellsA fr a)] (.bool (tagB r a)):=by
 obtain⟨c,least,most,hasTag,tag,sys,deny,hasPref,hasMed,hasAdd,pref,med,add,times⟩:=r
 refine callV_of (fn:=Go.Proofs.Tryz.f250) (body:=_) tab_ok mixed rfl rfl (by decide) (by simp[Go.Proofs.Tryz.f250]) ?_
 conv=>whnf
 cases hasTag with
 | false=>
  conv=>whnf
  exact(Ends.pure [] (by first|exact .A|exact LeL.fr rfl|exact LeV.nineA|exact LeV.noA) (by simp))
 | true=>
  conv=>whnf
  refine callV_pure (contains_ok fr a.tags tag) ⟨.free (encW_free _ _),.free .int,trivial⟩ ?_
  conv=>whnf
  exact(Ends.pure [] (by repeat' (first|exact True.intro|exact .bool_of (by rw[contains_all];rfl)|exact .A|exact LeL.fr rfl|exact LeV.nineA|exact LeV.noA|refine .tupL ?_|refine .aggL ?_|refine⟨?_,?_⟩)) (by simp))
theorem ask6_ok (fr:Bool) (r:Rule) (a:Attrs) (hr:rightA a=true):PCon prog 251 [.iptr true (cellsRu r),.iptr true (cellsA fr a)] (.bool (sysB r a)):=by
 obtain⟨h1,h2,h3,_⟩:=few_of_right hr
 refine callV_of (fn:=Go.Proofs.Tryz.f251) (body:=_) tab_ok mixed rfl rfl (by decide) (by simp[Go.Proofs.Tryz.f251]) ?_
 conv=>whnf
 cases h:((r.sys.toNat:Int) == 0)with
 | true=>
  conv=>whnf
  exact(Ends.pure [] (by repeat' (first|exact True.intro|exact .bool_of (by rw[u32_eq]at h;simp[sysB,h])|exact .A|exact LeL.fr rfl|exact LeV.nineA|exact LeV.noA|refine .tupL ?_|refine .aggL ?_|refine⟨?_,?_⟩)) (by simp))
 | false=>
  conv=>whnf
  refine callV_pure (has_ok fr a r.sys (by omega) (fun p hp=>by have:=h2 p hp;omega) (by omega)) ⟨.free (encA_free _ _),.free .int,trivial⟩ ?_
  conv=>whnf
  exact(Ends.pure [] (by repeat' (first|exact True.intro|exact .bool_of (by rw[u32_eq]at h;simp[sysB,h])|exact .A|exact LeL.fr rfl|exact LeV.nineA|exact LeV.noA|refine .tupL ?_|refine .aggL ?_|refine⟨?_,?_⟩)) (by simp))
theorem fits_ok (fr:Bool) (r:Rule) (p:Prefix) (a:Attrs):PCon prog 203 [encRu r,encP p,encA fr a] (.bool (fits r p a)):=by
 refine callV_of (fn:=Go.Proofs.Tryz.f203) (body:=_) tab_ok mixed rfl rfl (by decide) (by simp[Go.Proofs.Tryz.f203]) ?_
 conv=>whnf
 refine callV_pure (asks_ok fr r p a) ⟨.free (encRu_free _),.free (encP_free _),.free (encA_free _ _),trivial⟩ ?_
 conv=>whnf
 intro _
 conv=>whnf
 refine vcg_loop tab_ok mixed (fun i:{i:Nat // i≤6∧∀k,k < i→askB r p a k=true}=>⟨[(7,.bool true),(13,asksV fr r p a),(14,.int .i64 6),(15,cI i.1)],[],0⟩) (fun i=>6 - i.1) ⟨0,by omega,fun k hk=>by omega⟩ (Wk.i (by repeat' (first|exact LHa|exact .A|exact LeL.fr rfl|exact LeV.nineA|exact LeV.noA|exact LHb|refine Or.inl ⟨by simp,_,rfl,?_⟩|exact Or.inr ⟨by simp,_,_,_,_,rfl⟩|refine⟨rfl,rfl,rfl,rfl,rfl,rfl,?_⟩|refine⟨?_,?_⟩)) (by omega)) (fun i=>?_)
 obtain⟨i,hi,hall⟩:=i
 have hi':i=0∨i=1∨i=2∨i=3∨i=4∨i=5∨i=6:=by omega
 rcases hi' with rfl|rfl|rfl|rfl|rfl|rfl|rfl
 ·
  conv=>whnf
  refine⟨rfl,_,⟨by simp,rfl⟩,?_⟩
  conv=>whnf
  refine callV_pure (ask1_ok fr r) ⟨.free (.iptr (cellsRu_free _)),trivial⟩ ?_
  conv=>whnf
  cases hb:askB r p a 0 with
  | true=>
   have hb':=hb
   simp only[askB]at hb'
   rw[hb']
   conv=>whnf
   exact⟨⟨0 + 1,by omega,fun k hk=>by rcases Nat.lt_or_ge k 0 with h1|h1;exact hall k h1;obtain rfl:k=0:=(by omega);exact hb⟩,(Wk.i (by repeat' (first|exact LHa|exact .int_of (by decide)|exact .A|exact LeL.fr rfl|exact LeV.nineA|exact LeV.noA|exact LHb|refine Or.inl ⟨by simp,_,rfl,?_⟩|exact Or.inr ⟨by simp,_,_,_,_,rfl⟩|refine⟨rfl,rfl,rfl,rfl,rfl,rfl,?_⟩|refine⟨?_,?_⟩)) (by omega)),by simp only;omega⟩
  | false=>
   have hb':=hb
   simp only[askB]at hb'
   rw[hb']
   conv=>whnf
   exact(Ends.pure [] (by repeat' (first|exact True.intro|exact .bool_of (fits_not (k:=0) (by omega) hb).symm|exact .A|exact LeL.fr rfl|exact LeV.nineA|exact LeV.noA|refine .tupL ?_|refine .aggL ?_|refine⟨?_,?_⟩)) (by simp))
 ·
  conv=>whnf
  refine⟨rfl,_,⟨by simp,rfl⟩,?_⟩
  conv=>whnf
  refine callV_pure (ask2_ok fr p a) ⟨.free (.iptr (cellsP_free _)),.free (.iptr (cellsA_free _ _)),trivial⟩ ?_
  conv=>whnf
  cases hb:askB r p a 1 with
  | true=>
   have hb':=hb
   simp only[askB]at hb'
   rw[hb']
   conv=>whnf
   exact⟨⟨1 + 1,by omega,fun k hk=>by rcases Nat.lt_or_ge k 1 with h1|h1;exact hall k h1;obtain rfl:k=1:=(by omega);exact hb⟩,(Wk.i (by repeat' (first|exact LHa|exact .int_of (by decide)|exact .A|exact LeL.fr rfl|exact LeV.nineA|exact LeV.noA|exact LHb|refine Or.inl ⟨by simp,_,rfl,?_⟩|exact Or.inr ⟨by simp,_,_,_,_,rfl⟩|refine⟨rfl,rfl,rfl,rfl,rfl,rfl,?_⟩|refine⟨?_,?_⟩)) (by omega)),by simp only;omega⟩
  | false=>
   have hb':=hb
   simp only[askB]at hb'
   rw[hb']
   conv=>whnf
   exact(Ends.pure [] (by repeat' (first|exact True.intro|exact .bool_of (fits_not (k:=1) (by omega) hb).symm|exact .A|exact LeL.fr rfl|exact LeV.nineA|exact LeV.noA|refine .tupL ?_|refine .aggL ?_|refine⟨?_,?_⟩)) (by simp))
 ·
  conv=>whnf
  refine⟨rfl,_,⟨by simp,rfl⟩,?_⟩
  conv=>whnf
  refine callV_pure (ask3_ok r p) ⟨.free (.iptr (cellsRu_free _)),.free (.iptr (cellsP_free _)),trivial⟩ ?_
  conv=>whnf
  cases hb:askB r p a 2 with
  | true=>
   have hb':=hb
   simp only[askB]at hb'
   rw[hb']
   conv=>whnf
   exact⟨⟨2 + 1,by omega,fun k hk=>by rcases Nat.lt_or_ge k 2 with h1|h1;exact hall k h1;obtain rfl:k=2:=(by omega);exact hb⟩,(Wk.i (by repeat' (first|exact LHa|exact .int_of (by decide)|exact .A|exact LeL.fr rfl|exact LeV.nineA|exact LeV.noA|exact LHb|refine Or.inl ⟨by simp,_,rfl,?_⟩|exact Or.inr ⟨by simp,_,_,_,_,rfl⟩|refine⟨rfl,rfl,rfl,rfl,rfl,rfl,?_⟩|refine⟨?_,?_⟩)) (by omega)),by simp only;omega⟩
  | false=>
   have hb':=hb
   simp only[askB]at hb'
   rw[hb']
   conv=>whnf
   exact(Ends.pure [] (by repeat' (first|exact True.intro|exact .bool_of (fits_not (k:=2) (by omega) hb).symm|exact .A|exact LeL.fr rfl|exact LeV.nineA|exact LeV.noA|refine .tupL ?_|refine .aggL ?_|refine⟨?_,?_⟩)) (by simp))
 ·
  conv=>whnf
  refine⟨rfl,_,⟨by simp,rfl⟩,?_⟩
  conv=>whnf
  refine callV_pure (ask4_ok r p) ⟨.free (.iptr (cellsRu_free _)),.free (.iptr (cellsP_free _)),trivial⟩ ?_
  conv=>whnf
  cases hb:askB r p a 3 with
  | true=>
   have hb':=hb
   simp only[askB]at hb'
   rw[hb']
   conv=>whnf
   exact⟨⟨3 + 1,by omega,fun k hk=>by rcases Nat.lt_or_ge k 3 with h1|h1;exact hall k h1;obtain rfl:k=3:=(by omega);exact hb⟩,(Wk.i (by repeat' (first|exact LHa|exact .int_of (by decide)|exact .A|exact LeL.fr rfl|exact LeV.nineA|exact LeV.noA|exact LHb|refine Or.inl ⟨by simp,_,rfl,?_⟩|exact Or.inr ⟨by simp,_,_,_,_,rfl⟩|refine⟨rfl,rfl,rfl,rfl,rfl,rfl,?_⟩|refine⟨?_,?_⟩)) (by omega)),by simp only;omega⟩
  | false=>
   have hb':=hb
   simp only[askB]at hb'
   rw[hb']
   conv=>whnf
   exact(Ends.pure [] (by repeat' (first|exact True.intro|exact .bool_of (fits_not (k:=3) (by omega) hb).symm|exact .A|exact LeL.fr rfl|exact LeV.nineA|exact LeV.noA|refine .tupL ?_|refine .aggL ?_|refine⟨?_,?_⟩)) (by simp))
 ·
  conv=>whnf
  refine⟨rfl,_,⟨by simp,rfl⟩,?_⟩
  conv=>whnf
  refine callV_pure (ask5_ok fr r a) ⟨.free (.iptr (cellsRu_free _)),.free (.iptr (cellsA_free _ _)),trivial⟩ ?_
  conv=>whnf
  cases hb:askB r p a 4 with
  | true=>
   have hb':=hb
   simp only[askB]at hb'
   rw[hb']
   conv=>whnf
   exact⟨⟨4 + 1,by omega,fun k hk=>by rcases Nat.lt_or_ge k 4 with h1|h1;exact hall k h1;obtain rfl:k=4:=(by omega);exact hb⟩,(Wk.i (by repeat' (first|exact LHa|exact .int_of (by decide)|exact .A|exact LeL.fr rfl|exact LeV.nineA|exact LeV.noA|exact LHb|refine Or.inl ⟨by simp,_,rfl,?_⟩|exact Or.inr ⟨by simp,_,_,_,_,rfl⟩|refine⟨rfl,rfl,rfl,rfl,rfl,rfl,?_⟩|refine⟨?_,?_⟩)) (by omega)),by simp only;omega⟩
  | false=>
   have hb':=hb
   simp only[askB]at hb'
   rw[hb']
   conv=>whnf
   exact(Ends.pure [] (by repeat' (first|exact True.intro|exact .bool_of (fits_not (k:=4) (by omega) hb).symm|exact .A|exact LeL.fr rfl|exact LeV.nineA|exact LeV.noA|refine .tupL ?_|refine .aggL ?_|refine⟨?_,?_⟩)) (by simp))
 ·have hr:rightA a=true:=by have:=hall 1 (by omega);simp only[askB,Bool.and_eq_true]at this;exact this.2
  conv=>whnf
  refine⟨rfl,_,⟨by simp,rfl⟩,?_⟩
  conv=>whnf
  refine callV_pure (ask6_ok fr r a hr) ⟨.free (.iptr (cellsRu_free _)),.free (.iptr (cellsA_free _ _)),trivial⟩ ?_
  conv=>whnf
  cases hb:askB r p a 5 with
  | true=>
   have hb':=hb
   simp only[askB]at hb'
   rw[hb']
   conv=>whnf
   exact⟨⟨5 + 1,by omega,fun k hk=>by rcases Nat.lt_or_ge k 5 with h1|h1;exact hall k h1;obtain rfl:k=5:=(by omega);exact hb⟩,(Wk.i (by repeat' (first|exact LHa|exact .int_of (by decide)|exact .A|exact LeL.fr rfl|exact LeV.nineA|exact LeV.noA|exact LHb|refine Or.inl ⟨by simp,_,rfl,?_⟩|exact Or.inr ⟨by simp,_,_,_,_,rfl⟩|refine⟨rfl,rfl,rfl,rfl,rfl,rfl,?_⟩|refine⟨?_,?_⟩)) (by omega)),by simp only;omega⟩
  | false=>
   have hb':=hb
   simp only[askB]at hb'
   rw[hb']
   conv=>whnf
   exact(Ends.pure [] (by repeat' (first|exact True.intro|exact .bool_of (fits_not (k:=5) (by omega) hb).symm|exact .A|exact LeL.fr rfl|exact LeV.nineA|exact LeV.noA|refine .tupL ?_|refine .aggL ?_|refine⟨?_,?_⟩)) (by simp))
 ·conv=>whnf
  exact(Ends.pure [] (by repeat' (first|exact True.intro|exact .bool_of (fits_all hall).symm|exact .A|exact LeL.fr rfl|exact LeV.nineA|exact LeV.noA|refine .tupL ?_|refine .aggL ?_|refine⟨?_,?_⟩)) (by simp))
end
section
open Go.Proofs.Tryz (prog)
attribute [local irreducible] CallV RoundV
def whichP (p:Policy) (to:Prefix) (a:Attrs):Int:=if p.rules.any (fun r=>fits r to a)then(p.rules.findIdx (fun r=>fits r to a):Nat)else -1
theorem which_at {p:Policy} {to:Prefix} {a:Attrs} {i:Nat} (hi:i < p.rules.length) (hno:∀r∈p.rules.take i,fits r to a=false) (h:fits p.rules[i] to a=true):whichP p to a=i:=by
 unfold whichP
 rw[if_pos (List.any_eq_true.2 ⟨p.rules[i],List.getElem_mem hi,h⟩)]
 congr 1
 rw[List.findIdx_eq hi]
 refine⟨h,fun j hj=>?_⟩
 exact hno _ (List.mem_take_iff_getElem.2 ⟨j,by omega,rfl⟩)
theorem which_none {p:Policy} {to:Prefix} {a:Attrs} (hno:∀r∈p.rules,fits r to a=false):whichP p to a=-1:=by
 unfold whichP
 rw[if_neg]
 rw[Bool.not_eq_true,List.any_eq_false]
 intro r hr
 simp[hno r hr]
theorem nofit_succ {l:List Rule} {to:Prefix} {a:Attrs} {i:Nat} (hi:i < l.length) (hno:∀r∈l.take i,fits r to a=false) (h:fits l[i] to a=false):∀r∈l.take (i + 1),fits r to a=false:=by
 intro r hr
 rw[List.take_succ_eq_append_getElem hi]at hr
 rcases List.mem_append.1 hr with h1|h1
 ·exact hno r h1
 ·simp at h1;subst h1;exact h
theorem fitting_ok (fr fr':Bool) (p:Policy) (to:Prefix) (a:Attrs):PCon prog 159 [encPo fr p,encP to,encA fr' a] (.fn (.func 202) [] [.iptr true (cellsPo fr p),.iptr true (cellsP to),.iptr true (cellsA fr' a)]):=by
 refine callV_of (fn:=Go.Proofs.Tryz.f159) (body:=_) tab_ok mixed rfl rfl (by decide) (by simp[Go.Proofs.Tryz.f159]) ?_
 conv=>whnf
 exact Ends.pure [0,1,2] (.fnL trivial ⟨.fzP (by simp) rfl (cellsPo_free fr p),.fzP (by simp) rfl (cellsP_free to),.fzP (by simp) rfl (cellsA_free fr' a),trivial⟩) (by intro z hz;simp only[List.mem_cons,List.not_mem_nil,or_false]at hz;rcases hz with rfl|rfl|rfl<;>exact ne_none_of rfl)
theorem which_ok (fr fr':Bool) (p:Policy) (to:Prefix) (a:Attrs):PCon prog 120 [encPo fr p,encP to,encA fr' a] (.int .i64 (whichP p to a)):=by
 refine callV_of (fn:=Go.Proofs.Tryz.f120) (body:=_) tab_ok mixed rfl rfl (by decide) (by simp[Go.Proofs.Tryz.f120]) ?_
 conv=>whnf
 refine callV_pure (fitting_ok fr fr' p to a) ⟨.free (encPo_free _ _),.free (encP_free _),.free (encA_free _ _),trivial⟩ ?_
 conv=>whnf
 refine callV_loop [(6,.ptr 3 0)] ⟨rfl,trivial⟩ fun asg' body' hasg hbody=>?_
 refine callV_of (fn:=Go.Proofs.Tryz.f202) (body:=_) tab_ok mixed rfl rfl (by decide) (by simp[Go.Proofs.Tryz.f202]) ?_
 conv=>whnf
 intro hl
 have hl:p.rules.length≤maxLen:=by simpa[gd]using hl
 conv=>whnf
 refine vcg_loop tab_ok mixed (fun i:{i:Nat // i≤p.rules.length∧∀r∈p.rules.take i,fits r to a=false}=>⟨[(0,.yld 4),(2,.iptr true (cellsP to)),(3,.iptr true (cellsA fr' a)),(8,encRus fr p.rules),(9,cI p.rules.length),(10,cI i.1)],[(4,some (.loop 14 [(6,.ptr 3 0)] [12] asg' body' .ready none)),(3,some (.var true 3 [.int .i64 0]))],5⟩) (fun i=>p.rules.length - i.1) ⟨0,by omega,by simp⟩ (Wk.i (by repeat' (first|exact LHa|exact .free (.iptr (cellsP_free _))|exact .free (.iptr (cellsA_free _ _))|exact .int_of (by simp)|exact .A|exact LeL.fr rfl|exact LeV.nineA|exact LeV.noA|exact LHb|refine Or.inl ⟨by simp,_,rfl,?_⟩|exact Or.inr ⟨by simp,_,_,_,_,rfl⟩|refine⟨rfl,rfl,rfl,rfl,rfl,rfl,?_⟩|refine⟨?_,?_⟩)) (by omega)) (fun i=>?_)
 obtain⟨i,hi,hno⟩:=i
 conv=>whnf
 split
 ·rename_i hc
  have hc:i < p.rules.length:=by simpa using hc
  conv=>whnf
  refine ixK (idxRu hc) ?_
  conv=>whnf
  refine callV_pure (fits_ok fr' (p.rules[i]'hc) to a) ⟨.free (encRu_free _),.free (encP_free _),.free (encA_free _ _),trivial⟩ ?_
  cases hf:fits p.rules[i] to a with
  | true=>
   conv=>whnf
   subst hasg hbody
   refine roundV_of tab_ok mixed rfl (by simp) (show 4 < 6 by omega) ?_
   conv=>whnf
   refine⟨rfl,?_⟩
   conv=>whnf
   refine⟨rfl,?_⟩
   conv=>whnf
   refine⟨_,_,_,Ends.here,?_⟩
   conv=>whnf
   exact(Ends.pure [] (by repeat' (first|exact True.intro|exact .int_of (which_at hc hno hf).symm|exact .A|exact LeL.fr rfl|exact LeV.nineA|exact LeV.noA|refine .tupL ?_|refine .aggL ?_|refine⟨?_,?_⟩)) (by simp))
  | false=>
   conv=>whnf
   exact⟨⟨i + 1,by omega,nofit_succ hc hno hf⟩,(Wk.i (by repeat' (first|exact LHa|exact .free (.iptr (cellsP_free _))|exact .free (.iptr (cellsA_free _ _))|exact .int_of (wrap64_succ hc hl)|exact .A|exact LeL.fr rfl|exact LeV.nineA|exact LeV.noA|exact LHb|refine Or.inl ⟨by simp,_,rfl,?_⟩|exact Or.inr ⟨by simp,_,_,_,_,rfl⟩|refine⟨rfl,rfl,rfl,rfl,rfl,rfl,?_⟩|refine⟨?_,?_⟩)) (by omega)),by simp only;omega⟩
 ·rename_i hc
  have hc:i=p.rules.length:=by simp at hc;omega
  subst hc
  rw[List.take_length]at hno
  conv=>whnf
  refine⟨_,_,_,Ends.here,?_⟩
  conv=>whnf
  exact(Ends.pure [] (by repeat' (first|exact True.intro|exact .int_of (which_none hno).symm|exact .A|exact LeL.fr rfl|exact LeV.nineA|exact LeV.noA|refine .tupL ?_|refine .aggL ?_|refine⟨?_,?_⟩)) (by simp))
end
section
open Go.Proofs.Tryz (prog)
attribute [local irreducible] CallV RoundV
def setPref (r:Rule) (a:Attrs):Attrs:=if r.hasPref then { a with hasPref:=true,pref:=r.pref } else a
def setR (r:Rule) (a:Attrs):Attrs:=if r.hasMed then { setPref r a with hasMed:=true,med:=r.med } else setPref r a
def addE (r:Rule) (a:Attrs):Int:=if r.hasAdd then tagE a r.add else 0
def addA (r:Rule) (a:Attrs):Attrs:=if r.hasAdd then tagA a r.add else a
def doneA (r:Rule) (own:UInt32) (a:Attrs):Attrs:=prepA (addA r (setR r a)) own r.times.toNat
def doneE (r:Rule) (own:UInt32) (a:Attrs):Int:=prepE (addA r (setR r a)) own r.times.toNat
def passR (r:Rule) (own:UInt32) (a:Attrs):Bool:=!r.deny && decide (addE r (setR r a)=0)&& decide (doneE r own a=0)
def byE (p:Policy) (own:UInt32) (to:Prefix) (a:Attrs):Int:=if checkP p=2∨prefOk to=false∨rightA a=false∨own=0 then 2 else checkP p
def byOk (p:Policy) (own:UInt32) (to:Prefix) (a:Attrs):Bool:=match p.rules.find? (fun r=>fits r to a)with
 | none=>p.els
 | some r=>passR r own a
def byA (p:Policy) (own:UInt32) (to:Prefix) (a:Attrs):Attrs:=match p.rules.find? (fun r=>fits r to a)with
 | none=>if p.els then a else noA
 | some r=>if passR r own a then doneA r own a else noA
def byV (fr:Bool) (p:Policy) (own:UInt32) (to:Prefix) (a:Attrs):V:=
 if byE p own to a ≠ 0 then .tup [encA fr noA,.bool false,.int .i64 (byE p own to a)]else .tup [encA fr (byA p own to a),.bool (byOk p own to a),.int .i64 0]
theorem which_cases (p:Policy) (to:Prefix) (a:Attrs):(whichP p to a=-1∧p.rules.find? (fun r=>fits r to a)=none)∨∃(i:Nat) (hi:i < p.rules.length),whichP p to a=i∧p.rules.find? (fun r=>fits r to a)=some p.rules[i]∧fits p.rules[i] to a=true:=by
 cases h:p.rules.any (fun r=>fits r to a)with
 | false=>
  refine .inl ⟨by rw[whichP,h];rfl,?_⟩
  rw[List.find?_eq_none]
  rw[List.any_eq_false]at h
  exact fun r hr=>h r hr
 | true=>
  have hlt:p.rules.findIdx (fun r=>fits r to a) < p.rules.length:=List.findIdx_lt_length.2 (by rw[List.any_eq_true]at h;exact h)
  have hf:=List.findIdx_getElem (w:=hlt)
  refine .inr ⟨p.rules.findIdx (fun r=>fits r to a),hlt,by rw[whichP,h];rfl,?_,hf⟩
  have:=List.find?_eq_some_iff_getElem (xs:=p.rules) (p:=fun r=>fits r to a) (b:=p.rules[p.rules.findIdx (fun r=>fits r to a)])
  rw[this]
  refine⟨hf,_,hlt,rfl,fun j hj=>?_⟩
  have:=List.not_of_lt_findIdx hj
  simpa using this
def curA (r:Rule) (own:UInt32) (a:Attrs):Nat→Attrs
 | 0=>a
 | 1=>a
 | 2=>setR r a
 | 3=>addA r (setR r a)
 | _=>doneA r own a
def okA (r:Rule) (own:UInt32) (a:Attrs):Nat→Prop
 | 0=>True
 | 1=>r.deny=false
 | 2=>r.deny=false
 | 3=>r.deny=false∧addE r (setR r a)=0
 | _=>r.deny=false∧addE r (setR r a)=0∧doneE r own a=0
def byRows:List (List V):=[
 [.fn (.func 121) [] [.ptr 5 0]],
 [.fn (.func 122) [] [.ptr 5 0,.ptr 3 0]],
 [.fn (.func 123) [] [.ptr 5 0,.ptr 3 0]],
 [.fn (.func 125) [] [.ptr 3 0,.ptr 1 0,.ptr 5 0]]]
theorem byRows_le {h:Heap} {nx nx':Nat} {Z:List Nat} (hn:6 < nx'):LeR h nx id nx' Z byRows byRows:=
 ⟨⟨.fnL trivial ⟨.ptr rfl (by omega),trivial⟩,trivial⟩,⟨.fnL trivial ⟨.ptr rfl (by omega),.ptr rfl (by omega),trivial⟩,trivial⟩,⟨.fnL trivial ⟨.ptr rfl (by omega),.ptr rfl (by omega),trivial⟩,trivial⟩,⟨.fnL trivial ⟨.ptr rfl (by omega),.ptr rfl (by omega),.ptr rfl (by omega),trivial⟩,trivial⟩,trivial⟩
theorem by_ok (fr fr':Bool) (p:Policy) (own:UInt32) (to:Prefix) (a:Attrs):PCon prog 77 [encPo fr p,cW own,encP to,encA fr' a] (byV true p own to a):=by
 have bad:∀{s:St} {v:V} {e:Int},byE p own to a=e→e ≠ 0→LeV s.h s.nx id 0 [] v (encA true noA)→∃v1 h' nx',Ends 0 s (.tup [v,.bool false,.int .i64 e]) v1 h' nx'∧(v1=byV true p own to a∧h'=[]∧nx'=0):=fun he hne hv=>by
  rw[byV,he,if_pos hne]
  exact Ends.pure [] (.tupL ⟨hv,.free .bool,.free .int,trivial⟩) (by simp)
 refine callV_of (fn:=Go.Proofs.Tryz.f77) (body:=_) tab_ok mixed rfl rfl (by decide) (by simp[Go.Proofs.Tryz.f77]) ?_
 conv=>whnf
 refine callV_pure (check23_ok fr p) ⟨.free (encPo_free _ _),trivial⟩ ?_
 conv=>whnf
 cases h0:(checkP p == 2)with
 | true=>
  conv=>whnf
  exact bad (by rw[byE,if_pos (.inl (by simpa using h0))]) (by decide) .noA
 | false=>
 conv=>whnf
 refine callV_pure (uRight_ok to) ⟨.free (encP_free _),trivial⟩ ?_
 cases h1:prefOk to with
 | false=>
  conv=>whnf
  exact bad (by rw[byE,if_pos (.inr (.inl h1))]) (by decide) .noA
 | true=>
 conv=>whnf
 refine callV_pure (check_ok fr' a) ⟨.free (encA_free _ _),trivial⟩ ?_
 cases h2:rightA a with
 | false=>
  rw[checkA_no h2]
  conv=>whnf
  exact bad (by rw[byE,if_pos (.inr (.inr (.inl h2)))]) (by decide) .noA
 | true=>
 rw[checkA_yes h2]
 conv=>whnf
 cases h3:((own.toNat:Int) == 0)with
 | true=>
  conv=>whnf
  exact bad (by rw[byE,if_pos (.inr (.inr (.inr (by rw[u32_eq]at h3;simpa using h3))))]) (by decide) .noA
 | false=>
 have hb:byE p own to a=checkP p:=by
  rw[byE,if_neg]
  rw[u32_eq]at h3
  simp only[beq_eq_false_iff_ne,ne_eq]at h0 h3
  simp[h0,h1,h2,h3]
 conv=>whnf
 cases h4:(checkP p != 0)with
 | true=>
  conv=>whnf
  exact bad hb (by simpa using h4) .noA
 | false=>
 have h4:checkP p=0:=by simpa using h4
 rw[h4]at hb
 have fin:∀{s:St} {v:V} {b:Bool},byOk p own to a=b→LeV s.h s.nx id 0 [] v (encA true (byA p own to a))→∃v1 h' nx',Ends 0 s (.tup [v,.bool b,.int .i64 0]) v1 h' nx'∧(v1=byV true p own to a∧h'=[]∧nx'=0):=fun he hv=>by
  rw[byV,hb,if_neg (by simp)]
  exact Ends.pure [] (.tupL ⟨hv,.bool_of he.symm,.free .int,trivial⟩) (by simp)
 obtain⟨q1,q2,q3,_⟩:=few_of_right h2
 conv=>whnf
 refine callV_pure (copy_pure fr' a (by omega) (fun p hp=>by have:=q2 p hp;omega) (by omega)) ⟨.free (encA_free _ _),trivial⟩ ?_
 conv=>whnf
 refine callV_pure (which_ok fr true p to a) ⟨.free (encPo_free _ _),.free (encP_free _),.free (encA_free _ _),trivial⟩ ?_
 rcases which_cases p to a with⟨hw,hfi⟩|⟨i,hi,hw,hfi,hft⟩
 ·rw[hw]
  conv=>whnf
  cases he:p.els with
  | false=>
   conv=>whnf
   refine⟨by kernel_rfl,?_⟩
   conv=>whnf
   exact fin (by simp[byOk,hfi,he]) (by rw[byA,hfi];simp only[he];exact .noA)
  | true=>
   conv=>whnf
   refine⟨by kernel_rfl,?_⟩
   conv=>whnf
   exact fin (by simp[byOk,hfi,he]) (by rw[byA,hfi];simp only[he];exact .free (encA_free true a))
 ·rw[hw]
  conv=>whnf
  refine ixK (idxRu hi) ?_
  have hown:(own.toNat:Int) ≠ 0:=by simpa using h3
  generalize hrr:p.rules[i]=r at *
  have yes:okA r own a 4→byOk p own to a=true∧byA p own to a=doneA r own a:=fun⟨h1,h2,h3⟩=>by
   have:passR r own a=true:=by simp[passR,h1,h2,h3]
   simp[byOk,byA,hfi,this]
  have nay:passR r own a=false→byOk p own to a=false∧byA p own to a=noA:=fun h=>by simp[byOk,byA,hfi,h]
  obtain⟨cov,least,most,hasTag,tag,sys,deny,hasPref,hasMed,hasAdd,pref,med,add,times⟩:=r
  conv=>whnf
  intro _
  conv=>whnf
  refine vcg_loop tab_ok mixed (fun k:{k:Nat // k≤4∧okA (⟨cov,least,most,hasTag,tag,sys,deny,hasPref,hasMed,hasAdd,pref,med,add,times⟩:Rule) own a k}=>⟨[(7,.ptr 3 0),(8,.ptr 4 0),(67,.osl 6 1 0 4),(68,.int .i64 4),(69,cI k.1)],[(1,some (.var true 22 [cW own])),(3,some (.var true 35 (cellsA true (curA (⟨cov,least,most,hasTag,tag,sys,deny,hasPref,hasMed,hasAdd,pref,med,add,times⟩:Rule) own a k.1)))),(4,some (.var true 35 zeroA)),(5,some (.var true 132 (cellsRu (⟨cov,least,most,hasTag,tag,sys,deny,hasPref,hasMed,hasAdd,pref,med,add,times⟩:Rule)))),(6,some (.arr true true 40 1 byRows))],7⟩) (fun k=>4 - k.1) ⟨0,by omega,trivial⟩ (Wk.i (by repeat' (first|exact LHa|exact⟨id,id,rfl,rfl,LeR.out (byRows_le (by omega))⟩|exact .A|exact LeL.fr rfl|exact LeV.nineA|exact LeV.noA|exact LHb|refine Or.inl ⟨by simp,_,rfl,?_⟩|exact Or.inr ⟨by simp,_,_,_,_,rfl⟩|refine⟨rfl,rfl,rfl,rfl,rfl,rfl,?_⟩|refine⟨?_,?_⟩)) (by omega)) (fun k=>?_)
  obtain⟨k,hk,hok⟩:=k
  have hk':k=0∨k=1∨k=2∨k=3∨k=4:=by omega
  rcases hk' with rfl|rfl|rfl|rfl|rfl
  ·conv=>whnf
   refine⟨rfl,⟨by simp,by simp⟩,?_⟩
   conv=>whnf
   refine⟨rfl,_,rfl,?_⟩
   conv=>whnf
   refine callV_of (fn:=Go.Proofs.Tryz.f121) (body:=_) tab_ok mixed rfl rfl (by decide) (by simp[Go.Proofs.Tryz.f121]) ?_
   conv=>whnf
   refine⟨_,_,_,Ends.here,?_⟩
   cases deny with
   | true=>
    conv=>whnf
    obtain⟨n1,n2⟩:=nay (by simp[passR])
    exact fin n1 (by rw[n2];exact .noA)
   | false=>
    conv=>whnf
    exact⟨⟨1,by omega,rfl⟩,(Wk.i (by repeat' (first|exact LHa|exact⟨id,id,rfl,rfl,LeR.out (byRows_le (by omega))⟩|exact .A|exact LeL.fr rfl|exact LeV.nineA|exact LeV.noA|exact LHb|refine Or.inl ⟨by simp,_,rfl,?_⟩|exact Or.inr ⟨by simp,_,_,_,_,rfl⟩|refine⟨rfl,rfl,rfl,rfl,rfl,rfl,?_⟩|refine⟨?_,?_⟩)) (by omega)),by simp only;omega⟩
  ·conv=>whnf
   refine⟨rfl,⟨by simp,by simp⟩,?_⟩
   conv=>whnf
   refine⟨rfl,_,rfl,?_⟩
   conv=>whnf
   refine callV_of (fn:=Go.Proofs.Tryz.f122) (body:=_) tab_ok mixed rfl rfl (by decide) (by simp[Go.Proofs.Tryz.f122]) ?_
   conv=>whnf
   cases hasPref
   case' true=>
    conv=>whnf
    refine⟨by kernel_rfl,?_⟩
   all_goals
    conv=>whnf
    cases hasMed
    case' true=>
     conv=>whnf
     refine⟨by kernel_rfl,?_⟩
    all_goals
     conv=>whnf
     refine⟨_,_,_,Ends.here,?_⟩
     conv=>whnf
     exact⟨⟨2,by omega,hok⟩,(Wk.i (by repeat' (first|exact LHa|exact⟨id,id,rfl,rfl,LeR.out (byRows_le (by omega))⟩|exact LeL.of_eq rfl (cellsA_free true _)|exact .A|exact LeL.fr rfl|exact LeV.nineA|exact LeV.noA|exact LHb|refine Or.inl ⟨by simp,_,rfl,?_⟩|exact Or.inr ⟨by simp,_,_,_,_,rfl⟩|refine⟨rfl,rfl,rfl,rfl,rfl,rfl,?_⟩|refine⟨?_,?_⟩)) (by omega)),by simp only;omega⟩
  ·conv=>whnf
   refine⟨rfl,⟨by simp,by simp⟩,?_⟩
   conv=>whnf
   refine⟨rfl,_,rfl,?_⟩
   conv=>whnf
   refine callV_of (fn:=Go.Proofs.Tryz.f123) (body:=_) tab_ok mixed rfl rfl (by decide) (by simp[Go.Proofs.Tryz.f123]) ?_
   conv=>whnf
   cases hasAdd with
   | false=>
    conv=>whnf
    refine⟨_,_,_,Ends.here,?_⟩
    conv=>whnf
    exact⟨⟨3,by omega,hok,rfl⟩,(Wk.i (by repeat' (first|exact LHa|exact⟨id,id,rfl,rfl,LeR.out (byRows_le (by omega))⟩|exact LeL.of_eq rfl (cellsA_free true _)|exact .A|exact LeL.fr rfl|exact LeV.nineA|exact LeV.noA|exact LHb|refine Or.inl ⟨by simp,_,rfl,?_⟩|exact Or.inr ⟨by simp,_,_,_,_,rfl⟩|refine⟨rfl,rfl,rfl,rfl,rfl,rfl,?_⟩|refine⟨?_,?_⟩)) (by omega)),by simp only;omega⟩
   | true=>
    conv=>whnf
    refine callV_pure (tag_ok true (setR (⟨cov,least,most,hasTag,tag,sys,deny,hasPref,hasMed,true,pref,med,add,times⟩:Rule) a) add) ⟨.free (encA_free _ _),.free .int,trivial⟩ ?_
    conv=>whnf
    refine⟨_,_,_,Ends.here,?_⟩
    conv=>whnf
    cases hte:(tagE (setR (⟨cov,least,most,hasTag,tag,sys,deny,hasPref,hasMed,true,pref,med,add,times⟩:Rule) a) add == 0)with
    | true=>
     conv=>whnf
     exact⟨⟨3,by omega,hok,eq_of_beq hte⟩,(Wk.i (by repeat' (first|exact LHa|exact⟨id,id,rfl,rfl,LeR.out (byRows_le (by omega))⟩|exact LeL.of_eq rfl (cellsA_free true _)|exact .A|exact LeL.fr rfl|exact LeV.nineA|exact LeV.noA|exact LHb|refine Or.inl ⟨by simp,_,rfl,?_⟩|exact Or.inr ⟨by simp,_,_,_,_,rfl⟩|refine⟨rfl,rfl,rfl,rfl,rfl,rfl,?_⟩|refine⟨?_,?_⟩)) (by omega)),by simp only;omega⟩
    | false=>
     have hte:tagE (setR (⟨cov,least,most,hasTag,tag,sys,deny,hasPref,hasMed,true,pref,med,add,times⟩:Rule) a) add ≠ 0:=by simpa using hte
     conv=>whnf
     obtain⟨n1,n2⟩:=nay (by simp only[passR,addE,if_true,hte,decide_false,Bool.and_false,Bool.false_and])
     exact fin n1 (by rw[n2];exact .noA)
  ·conv=>whnf
   refine⟨rfl,⟨by simp,by simp⟩,?_⟩
   conv=>whnf
   refine⟨rfl,_,rfl,?_⟩
   conv=>whnf
   refine callV_of (fn:=Go.Proofs.Tryz.f125) (body:=_) tab_ok mixed rfl rfl (by decide) (by simp[Go.Proofs.Tryz.f125]) ?_
   conv=>whnf
   refine callV_pure (prepend_ok true (addA (⟨cov,least,most,hasTag,tag,sys,deny,hasPref,hasMed,hasAdd,pref,med,add,times⟩:Rule) (setR (⟨cov,least,most,hasTag,tag,sys,deny,hasPref,hasMed,hasAdd,pref,med,add,times⟩:Rule) a)) own (times.toNat:Int)) ⟨.free (encA_free _ _),.free .int,.int_of (wrap64 (n:=(times.toNat:Int)) (by omega) (by have:=times.toNat_lt;omega)),trivial⟩ ?_
   conv=>whnf
   refine⟨_,_,_,Ends.here,?_⟩
   conv=>whnf
   cases hte:(prepE (addA (⟨cov,least,most,hasTag,tag,sys,deny,hasPref,hasMed,hasAdd,pref,med,add,times⟩:Rule) (setR (⟨cov,least,most,hasTag,tag,sys,deny,hasPref,hasMed,hasAdd,pref,med,add,times⟩:Rule) a)) own (times.toNat:Int) == 0)with
   | true=>
    conv=>whnf
    exact⟨⟨4,by omega,hok.1,hok.2,eq_of_beq hte⟩,(Wk.i (by repeat' (first|exact LHa|exact⟨id,id,rfl,rfl,LeR.out (byRows_le (by omega))⟩|exact LeL.of_eq rfl (cellsA_free true _)|exact .A|exact LeL.fr rfl|exact LeV.nineA|exact LeV.noA|exact LHb|refine Or.inl ⟨by simp,_,rfl,?_⟩|exact Or.inr ⟨by simp,_,_,_,_,rfl⟩|refine⟨rfl,rfl,rfl,rfl,rfl,rfl,?_⟩|refine⟨?_,?_⟩)) (by omega)),by simp only;omega⟩
   | false=>
    have hte:doneE (⟨cov,least,most,hasTag,tag,sys,deny,hasPref,hasMed,hasAdd,pref,med,add,times⟩:Rule) own a ≠ 0:=ne_of_beq_false hte
    conv=>whnf
    obtain⟨n1,n2⟩:=nay (by simp only[passR,hte,decide_false,Bool.and_false])
    exact fin n1 (by rw[n2];exact .noA)
  ·conv=>whnf
   obtain⟨y1,y2⟩:=yes hok
   exact fin y1 (by rw[y2];exact .free (encA_free true _))
end
section
open Go.Proofs.Tryz (prog)
attribute [local irreducible] CallV RoundV
def cmpI (a b:Int):Int:=if a < b then -1 else if b < a then 1 else 0
def orI (l:List Int):Int:=(l.find? (· != 0)).getD 0
def cmpP (p q:Prefix):Int:=orI [cmpI p.addr.toNat q.addr.toNat,cmpI p.len.toNat q.len.toNat]
end
section
open Go.Proofs.Tryz (prog)
attribute [local irreducible] CallV RoundV
theorem flat1 {α:Type} (f:α→V):∀l:List α,(l.map fun x=>[f x]).flatten=l.map f
 | []=>rfl
 | x :: l=>by simp[flat1 f l]
end
section
open Go.Proofs.Tryz (prog)
attribute [local irreducible] CallV RoundV
theorem uhigh_ok (x:UInt32):PCon prog 154 [cW x,.int .i64 4] (encB true (fourB x)):=by
 refine callV_of (fn:=Go.Proofs.Tryz.f154) (body:=_) tab_ok mixed rfl rfl (by decide) (by simp[Go.Proofs.Tryz.f154]) ?_
 conv=>whnf
 refine⟨⟨by omega,by omega,by simp[tab,tabOf,nth],by omega⟩,?_⟩
 conv=>whnf
 refine callV_of (fn:=Go.Proofs.Tryz.f158) (body:=_) tab_ok mixed rfl rfl (by decide) (by simp[Go.Proofs.Tryz.f158]) ?_
 conv=>whnf
 refine⟨_,_,_,Ends.here,?_⟩
 conv=>whnf
 refine callV_loop [(2,.ptr 0 0),(5,.ptr 2 0)] ⟨rfl,rfl,trivial⟩ fun asg' body' hasg hbody=>?_
 refine callV_of (fn:=Go.Proofs.Tryz.f201) (body:=_) tab_ok mixed rfl rfl (by decide) (by simp[Go.Proofs.Tryz.f201]) ?_
 conv=>whnf
 intro _
 conv=>whnf
 refine vcg_loop tab_ok mixed (fun k:{k:Nat // k≤4}=>⟨[(0,.yld 4),(1,.ptr 3 0),(3,.int .i64 (3 - k.1))],[(4,some (.loop 23 [(2,.ptr 0 0),(5,.ptr 2 0)] [11,12] asg' body' .ready none)),(0,some (.var true 22 [.int .u32 (shr8 x k.1)])),(1,some (.arr true true 5 1 (highRows x k.1))),(2,some (.var true 127 [.osl 1 1 0 4])),(3,some (.var true 127 [.osl 1 1 0 4]))],5⟩) (fun k=>4 - k.1) ⟨0,by omega⟩ ?_ (fun k=>?_)
 ·refine Wk.of id [] ⟨?_,?_,?_,trivial⟩ (LeH.of ⟨⟨by omega,.inl ⟨by simp,_,rfl,?_⟩⟩,⟨by omega,.inl ⟨by simp,_,rfl,?_⟩⟩,⟨by omega,.inl ⟨by simp,_,rfl,?_⟩⟩,⟨by omega,.inl ⟨by simp,_,rfl,?_⟩⟩,⟨by omega,.inl ⟨by simp,_,rfl,?_⟩⟩,trivial⟩ (fun _ _ _ _ h=>h) (fun _ _=>rfl) (by omega) (by simp))
  ·exact .yld rfl (by omega)
  ·exact .ptr rfl (by omega)
  ·exact .int_of rfl
  ·exact⟨rfl,rfl,rfl,rfl,rfl,rfl,.ptr rfl (by omega),.ptr rfl (by omega),trivial⟩
  ·exact⟨id,rfl,.int_of rfl,trivial⟩
  ·exact LeB.free (blk:=.arr true true 5 1 (highRows x 0)) (highRows_free x 0)
  ·exact⟨id,rfl,.osl_of rfl (by omega) rfl,trivial⟩
  ·exact⟨id,rfl,.osl_of rfl (by omega) rfl,trivial⟩
 obtain⟨k,hk⟩:=k
 rcases k with _|_|_|_|_|k
 case succ.succ.succ.succ.succ=>omega
 case succ.succ.succ.succ.zero=>
  conv=>whnf
  refine⟨_,_,_,Ends.here,?_⟩
  conv=>whnf
  refine Ends.pure [1] ?_ ?_
  ·refine LeV.freeze_of (by simp) rfl (by simp[highRows]) (highRows_free x 4) ?_
   simp[highRows,fourB]
  ·intro z hz
   obtain rfl:=List.mem_singleton.1 hz
   exact ne_none_of rfl
 ·conv=>whnf
  refine⟨rfl,⟨by simp,by simp⟩,?_⟩
  conv=>whnf
  refine⟨rfl,_,rfl,?_⟩
  conv=>whnf
  subst hasg hbody
  refine roundV_of tab_ok mixed rfl (by simp) (show 4 < 5 by omega) ?_
  conv=>whnf
  refine⟨rfl,?_⟩
  conv=>whnf
  refine⟨rfl,⟨by simp,by simp⟩,?_⟩
  conv=>whnf
  refine⟨rfl,_,rfl,?_⟩
  conv=>whnf
  refine⟨by decide,?_⟩
  conv=>whnf
  refine⟨rfl,?_⟩
  conv=>whnf
  refine⟨⟨1,by omega⟩,Wk.of id [] ⟨.yld rfl (by omega),.ptr rfl (by omega),.int_of ?_,trivial⟩ (LeH.of ⟨⟨by omega,.inl ⟨by simp,_,rfl,rfl,rfl,rfl,rfl,rfl,rfl,.ptr rfl (by omega),.ptr rfl (by omega),trivial⟩⟩,⟨by omega,.inl ⟨by simp,_,rfl,id,rfl,.int_of ?_,trivial⟩⟩,⟨by omega,.inl ⟨by simp,_,rfl,LeB.eq_of ?_ (highRows_free x 1)⟩⟩,⟨by omega,.inl ⟨by simp,_,rfl,id,rfl,.osl_of rfl (by omega) rfl,trivial⟩⟩,⟨by omega,.inl ⟨by simp,_,rfl,id,rfl,.osl_of rfl (by omega) rfl,trivial⟩⟩,trivial⟩ (fun _ _ _ _ h=>h) (fun _ _=>rfl) (by omega) (by simp)),?_⟩
  ·simp[wrap64']
  ·refine sh_step ?_
   have:=x.toNat_lt
   simp[UInt32.toNat_shiftRight,Nat.shiftRight_eq_div_pow,Nat.div_div_eq_div_mul]<;>omega
  ·simp[highRows,shr8,cB,wrap8]
  ·simp
 ·conv=>whnf
  refine⟨rfl,⟨by simp,by simp⟩,?_⟩
  conv=>whnf
  refine⟨rfl,_,rfl,?_⟩
  conv=>whnf
  subst hasg hbody
  refine roundV_of tab_ok mixed rfl (by simp) (show 4 < 5 by omega) ?_
  conv=>whnf
  refine⟨rfl,?_⟩
  conv=>whnf
  refine⟨rfl,⟨by simp,by simp⟩,?_⟩
  conv=>whnf
  refine⟨rfl,_,rfl,?_⟩
  conv=>whnf
  refine⟨by decide,?_⟩
  conv=>whnf
  refine⟨rfl,?_⟩
  conv=>whnf
  refine⟨⟨2,by omega⟩,Wk.of id [] ⟨.yld rfl (by omega),.ptr rfl (by omega),.int_of ?_,trivial⟩ (LeH.of ⟨⟨by omega,.inl ⟨by simp,_,rfl,rfl,rfl,rfl,rfl,rfl,rfl,.ptr rfl (by omega),.ptr rfl (by omega),trivial⟩⟩,⟨by omega,.inl ⟨by simp,_,rfl,id,rfl,.int_of ?_,trivial⟩⟩,⟨by omega,.inl ⟨by simp,_,rfl,LeB.eq_of ?_ (highRows_free x 2)⟩⟩,⟨by omega,.inl ⟨by simp,_,rfl,id,rfl,.osl_of rfl (by omega) rfl,trivial⟩⟩,⟨by omega,.inl ⟨by simp,_,rfl,id,rfl,.osl_of rfl (by omega) rfl,trivial⟩⟩,trivial⟩ (fun _ _ _ _ h=>h) (fun _ _=>rfl) (by omega) (by simp)),?_⟩
  ·simp[wrap64']
  ·refine sh_step ?_
   have:=x.toNat_lt
   simp[UInt32.toNat_shiftRight,Nat.shiftRight_eq_div_pow,Nat.div_div_eq_div_mul]<;>omega
  ·simp[highRows,shr8,cB,wrap8]
  ·simp
 ·conv=>whnf
  refine⟨rfl,⟨by simp,by simp⟩,?_⟩
  conv=>whnf
  refine⟨rfl,_,rfl,?_⟩
  conv=>whnf
  subst hasg hbody
  refine roundV_of tab_ok mixed rfl (by simp) (show 4 < 5 by omega) ?_
  conv=>whnf
  refine⟨rfl,?_⟩
  conv=>whnf
  refine⟨rfl,⟨by simp,by simp⟩,?_⟩
  conv=>whnf
  refine⟨rfl,_,rfl,?_⟩
  conv=>whnf
  refine⟨by decide,?_⟩
  conv=>whnf
  refine⟨rfl,?_⟩
  conv=>whnf
  refine⟨⟨3,by omega⟩,Wk.of id [] ⟨.yld rfl (by omega),.ptr rfl (by omega),.int_of ?_,trivial⟩ (LeH.of ⟨⟨by omega,.inl ⟨by simp,_,rfl,rfl,rfl,rfl,rfl,rfl,rfl,.ptr rfl (by omega),.ptr rfl (by omega),trivial⟩⟩,⟨by omega,.inl ⟨by simp,_,rfl,id,rfl,.int_of ?_,trivial⟩⟩,⟨by omega,.inl ⟨by simp,_,rfl,LeB.eq_of ?_ (highRows_free x 3)⟩⟩,⟨by omega,.inl ⟨by simp,_,rfl,id,rfl,.osl_of rfl (by omega) rfl,trivial⟩⟩,⟨by omega,.inl ⟨by simp,_,rfl,id,rfl,.osl_of rfl (by omega) rfl,trivial⟩⟩,trivial⟩ (fun _ _ _ _ h=>h) (fun _ _=>rfl) (by omega) (by simp)),?_⟩
  ·simp[wrap64']
  ·refine sh_step ?_
   have:=x.toNat_lt
   simp[UInt32.toNat_shiftRight,Nat.shiftRight_eq_div_pow,Nat.div_div_eq_div_mul]<;>omega
  ·simp[highRows,shr8,cB,wrap8]
  ·simp
 ·conv=>whnf
  refine⟨rfl,⟨by simp,by simp⟩,?_⟩
  conv=>whnf
  refine⟨rfl,_,rfl,?_⟩
  conv=>whnf
  subst hasg hbody
  refine roundV_of tab_ok mixed rfl (by simp) (show 4 < 5 by omega) ?_
  conv=>whnf
  refine⟨rfl,?_⟩
  conv=>whnf
  refine⟨rfl,⟨by simp,by simp⟩,?_⟩
  conv=>whnf
  refine⟨rfl,_,rfl,?_⟩
  conv=>whnf
  refine⟨by decide,?_⟩
  conv=>whnf
  refine⟨rfl,?_⟩
  conv=>whnf
  refine⟨⟨4,by omega⟩,Wk.of id [] ⟨.yld rfl (by omega),.ptr rfl (by omega),.int_of ?_,trivial⟩ (LeH.of ⟨⟨by omega,.inl ⟨by simp,_,rfl,rfl,rfl,rfl,rfl,rfl,rfl,.ptr rfl (by omega),.ptr rfl (by omega),trivial⟩⟩,⟨by omega,.inl ⟨by simp,_,rfl,id,rfl,.int_of ?_,trivial⟩⟩,⟨by omega,.inl ⟨by simp,_,rfl,LeB.eq_of ?_ (highRows_free x 4)⟩⟩,⟨by omega,.inl ⟨by simp,_,rfl,id,rfl,.osl_of rfl (by omega) rfl,trivial⟩⟩,⟨by omega,.inl ⟨by simp,_,rfl,id,rfl,.osl_of rfl (by omega) rfl,trivial⟩⟩,trivial⟩ (fun _ _ _ _ h=>h) (fun _ _=>rfl) (by omega) (by simp)),?_⟩
  ·simp[wrap64']
  ·refine sh_step ?_
   have:=x.toNat_lt
   simp[UInt32.toNat_shiftRight,Nat.shiftRight_eq_div_pow,Nat.div_div_eq_div_mul]<;>omega
  ·simp[highRows,shr8,cB,wrap8]
  ·simp
theorem uhighI_ok (n:Nat) (hn:n < 65536):PCon prog 116 [cI n,.int .i64 2] (encB true (twoB n)):=by
 refine callV_of (fn:=Go.Proofs.Tryz.f116) (body:=_) tab_ok mixed rfl rfl (by decide) (by simp[Go.Proofs.Tryz.f116]) ?_
 conv=>whnf
 refine⟨⟨by omega,by omega,by simp[tab,tabOf,nth],by omega⟩,?_⟩
 conv=>whnf
 refine callV_of (fn:=Go.Proofs.Tryz.f158) (body:=_) tab_ok mixed rfl rfl (by decide) (by simp[Go.Proofs.Tryz.f158]) ?_
 conv=>whnf
 refine⟨_,_,_,Ends.here,?_⟩
 conv=>whnf
 refine callV_loop [(2,.ptr 0 0),(5,.ptr 2 0)] ⟨rfl,rfl,trivial⟩ fun asg' body' hasg hbody=>?_
 refine callV_of (fn:=Go.Proofs.Tryz.f201) (body:=_) tab_ok mixed rfl rfl (by decide) (by simp[Go.Proofs.Tryz.f201]) ?_
 conv=>whnf
 intro _
 conv=>whnf
 refine vcg_loop tab_ok mixed (fun k:{k:Nat // k≤2}=>⟨[(0,.yld 4),(1,.ptr 3 0),(3,.int .i64 (1 - k.1))],[(4,some (.loop 23 [(2,.ptr 0 0),(5,.ptr 2 0)] [11,12] asg' body' .ready none)),(0,some (.var true 3 [.int .i64 (shrI n k.1)])),(1,some (.arr true true 5 1 (twoRows n k.1))),(2,some (.var true 127 [.osl 1 1 0 2])),(3,some (.var true 127 [.osl 1 1 0 2]))],5⟩) (fun k=>2 - k.1) ⟨0,by omega⟩ ?_ (fun k=>?_)
 ·refine Wk.of id [] ⟨?_,?_,?_,trivial⟩ (LeH.of ⟨⟨by omega,.inl ⟨by simp,_,rfl,?_⟩⟩,⟨by omega,.inl ⟨by simp,_,rfl,?_⟩⟩,⟨by omega,.inl ⟨by simp,_,rfl,?_⟩⟩,⟨by omega,.inl ⟨by simp,_,rfl,?_⟩⟩,⟨by omega,.inl ⟨by simp,_,rfl,?_⟩⟩,trivial⟩ (fun _ _ _ _ h=>h) (fun _ _=>rfl) (by omega) (by simp))
  ·exact .yld rfl (by omega)
  ·exact .ptr rfl (by omega)
  ·exact .int_of rfl
  ·exact⟨rfl,rfl,rfl,rfl,rfl,rfl,.ptr rfl (by omega),.ptr rfl (by omega),trivial⟩
  ·exact⟨id,rfl,.int_of rfl,trivial⟩
  ·exact LeB.free (blk:=.arr true true 5 1 (twoRows n 0)) (twoRows_free n 0)
  ·exact⟨id,rfl,.osl_of rfl (by omega) rfl,trivial⟩
  ·exact⟨id,rfl,.osl_of rfl (by omega) rfl,trivial⟩
 obtain⟨k,hk⟩:=k
 rcases k with _|_|_|k
 case succ.succ.succ=>omega
 case succ.succ.zero=>
  conv=>whnf
  refine⟨_,_,_,Ends.here,?_⟩
  conv=>whnf
  refine Ends.pure [1] ?_ ?_
  ·refine LeV.freeze_of (by simp) rfl (by simp[twoRows]) (twoRows_free n 2) ?_
   simp[twoRows,twoB]
  ·intro z hz
   obtain rfl:=List.mem_singleton.1 hz
   exact ne_none_of rfl
 ·conv=>whnf
  refine⟨rfl,⟨by simp,by simp⟩,?_⟩
  conv=>whnf
  refine⟨rfl,_,rfl,?_⟩
  conv=>whnf
  subst hasg hbody
  refine roundV_of tab_ok mixed rfl (by simp) (show 4 < 5 by omega) ?_
  conv=>whnf
  refine⟨rfl,?_⟩
  conv=>whnf
  refine⟨rfl,⟨by simp,by simp⟩,?_⟩
  conv=>whnf
  refine⟨rfl,_,rfl,?_⟩
  conv=>whnf
  refine⟨by decide,?_⟩
  conv=>whnf
  refine⟨rfl,?_⟩
  conv=>whnf
  refine⟨⟨1,by omega⟩,Wk.of id [] ⟨.yld rfl (by omega),.ptr rfl (by omega),.int_of ?_,trivial⟩ (LeH.of ⟨⟨by omega,.inl ⟨by simp,_,rfl,rfl,rfl,rfl,rfl,rfl,rfl,.ptr rfl (by omega),.ptr rfl (by omega),trivial⟩⟩,⟨by omega,.inl ⟨by simp,_,rfl,id,rfl,.int_of ?_,trivial⟩⟩,⟨by omega,.inl ⟨by simp,_,rfl,LeB.eq_of ?_ (twoRows_free n 1)⟩⟩,⟨by omega,.inl ⟨by simp,_,rfl,id,rfl,.osl_of rfl (by omega) rfl,trivial⟩⟩,⟨by omega,.inl ⟨by simp,_,rfl,id,rfl,.osl_of rfl (by omega) rfl,trivial⟩⟩,trivial⟩ (fun _ _ _ _ h=>h) (fun _ _=>rfl) (by omega) (by simp)),?_⟩
  ·simp[wrap64']
  ·exact shI_step _ (by simp[Nat.div_div_eq_div_mul]) (by omega)
  ·simp[twoRows,shrI,cB,wrap8]
  ·simp
 ·conv=>whnf
  refine⟨rfl,⟨by simp,by simp⟩,?_⟩
  conv=>whnf
  refine⟨rfl,_,rfl,?_⟩
  conv=>whnf
  subst hasg hbody
  refine roundV_of tab_ok mixed rfl (by simp) (show 4 < 5 by omega) ?_
  conv=>whnf
  refine⟨rfl,?_⟩
  conv=>whnf
  refine⟨rfl,⟨by simp,by simp⟩,?_⟩
  conv=>whnf
  refine⟨rfl,_,rfl,?_⟩
  conv=>whnf
  refine⟨by decide,?_⟩
  conv=>whnf
  refine⟨rfl,?_⟩
  conv=>whnf
  refine⟨⟨2,by omega⟩,Wk.of id [] ⟨.yld rfl (by omega),.ptr rfl (by omega),.int_of ?_,trivial⟩ (LeH.of ⟨⟨by omega,.inl ⟨by simp,_,rfl,rfl,rfl,rfl,rfl,rfl,rfl,.ptr rfl (by omega),.ptr rfl (by omega),trivial⟩⟩,⟨by omega,.inl ⟨by simp,_,rfl,id,rfl,.int_of ?_,trivial⟩⟩,⟨by omega,.inl ⟨by simp,_,rfl,LeB.eq_of ?_ (twoRows_free n 2)⟩⟩,⟨by omega,.inl ⟨by simp,_,rfl,id,rfl,.osl_of rfl (by omega) rfl,trivial⟩⟩,⟨by omega,.inl ⟨by simp,_,rfl,id,rfl,.osl_of rfl (by omega) rfl,trivial⟩⟩,trivial⟩ (fun _ _ _ _ h=>h) (fun _ _=>rfl) (by omega) (by simp)),?_⟩
  ·simp[wrap64']
  ·exact shI_step _ (by simp[Nat.div_div_eq_div_mul]) (by omega)
  ·simp[twoRows,shrI,cB,wrap8]
  ·simp
end
section
open Go.Proofs.Tryz (prog)
attribute [local irreducible] CallV RoundV aggK
abbrev rowsP (l:List Prefix):List (List V):=l.map cellsP
def encPs (fr:Bool) (l:List Prefix):V:=.sl fr 2 (rowsP l)
theorem cellsP_all (p:Prefix):∀v∈cellsP p,Free v∧Cold v∧Fresh v:=by
 intro v hv
 simp only[cellsP,List.mem_cons,List.not_mem_nil,or_false]at hv
 rcases hv with rfl|rfl<;>exact⟨.int,.int,.int⟩
theorem rowsP_all (l:List Prefix):∀x∈rowsP l,∀v∈x,Free v∧Cold v∧Fresh v:=by
 intro x hx v hv
 obtain⟨r,_,rfl⟩:=List.mem_map.1 hx
 exact cellsP_all r v hv
theorem rowsP_free (l:List Prefix):∀x∈rowsP l,∀v∈x,Free v:=fun x hx v hv=>(rowsP_all l x hx v hv).1
theorem encPs_free (fr:Bool) (l:List Prefix):Free (encPs fr l):=.sl (rowsP_free l)
theorem encPs_cold (l:List Prefix):Cold (encPs false l):=.sl fun x hx v hv=>(rowsP_all l x hx v hv).2.1
theorem encPs_fresh (l:List Prefix):Fresh (encPs true l):=.sl fun x hx v hv=>(rowsP_all l x hx v hv).2.2
theorem idxP {l:List Prefix} {i:Nat} (h:i < l.length):(rowsP l)[(i:Int).toNat]? = some (cellsP l[i]):=by simp[rowsP,h]
theorem wfW (x:UInt32):(Lit.int .u32 (x.toNat:Int)).wf=true:=by
 have:=x.toNat_lt
 simp only[Lit.wf,Bool.and_eq_true,decide_eq_true_eq]
 exact⟨by simp[IntKind.min,IntKind.signed];try omega,by simp[IntKind.max,IntKind.signed,IntKind.bits];omega⟩
theorem wfB (x:UInt8):(Lit.int .u8 (x.toNat:Int)).wf=true:=by
 have:=x.toNat_lt
 simp only[Lit.wf,Bool.and_eq_true,decide_eq_true_eq]
 exact⟨by simp[IntKind.min,IntKind.signed];try omega,by simp[IntKind.max,IntKind.signed,IntKind.bits];omega⟩
def litsP (p:Prefix):List Lit:=[.int .u32 (p.addr.toNat:Int),.int .u8 (p.len.toNat:Int)]
theorem litsP_inj {p q:Prefix}:litsP p=litsP q↔p=q:=by
 constructor
 ·intro h
  obtain⟨a,b⟩:=p
  obtain⟨c,d⟩:=q
  simp only[litsP,List.cons.injEq,Lit.int.injEq,true_and,and_true]at h
  rw[UInt32.toNat_inj.1 (by omega:a.toNat=c.toNat),UInt8.toNat_inj.1 (by omega:b.toNat=d.toNat)]
 ·exact fun h=>by rw[h]
theorem litP (p:Prefix) {K:List Lit→Prop} (h:K (litsP p)):litK tab 60 31 (cellsP p) K:=And.intro (wfW _) (And.intro (wfB _) h)
theorem aggK_neq {T:Tab} {t:Nat} {fs:List (Nat × Nat)} (hk:(T t).key=true) (hs:(T t).k=.struct fs) {cs ds:List V} {K:V→Prop}
  (h:litK T 60 t cs fun la=>litK T 60 t ds fun lb=>∃r:Bool,(r=true↔la=lb)∧K (.bool (!r))):aggK T .neq t cs ds K:=by
 rw[aggK,hk,hs]
 exact h
theorem aggK_eql {T:Tab} {t:Nat} {fs:List (Nat × Nat)} (hk:(T t).key=true) (hs:(T t).k=.struct fs) {cs ds:List V} {K:V→Prop}
  (h:litK T 60 t cs fun la=>litK T 60 t ds fun lb=>∃r:Bool,(r=true↔la=lb)∧K (.bool r)):aggK T .eql t cs ds K:=by
 rw[aggK,hk,hs]
 exact h
theorem neqP (r s:Prefix) {K:V→Prop} (h:K (.bool (!decide (r=s)))):aggK tab .neq 31 (cellsP r) (cellsP s) K:=by
 refine aggK_neq rfl rfl ?_
 refine litP r ?_
 refine litP s ?_
 exact⟨decide (r=s),by rw[litsP_inj];simp,h⟩
theorem eqlP (r s:Prefix) {K:V→Prop} (h:K (.bool (decide (r=s)))):aggK tab .eql 31 (cellsP r) (cellsP s) K:=by
 refine aggK_eql rfl rfl ?_
 refine litP r ?_
 refine litP s ?_
 exact⟨decide (r=s),by rw[litsP_inj];simp,h⟩
theorem keyP (p:Prefix):KeyV tab 31 (encP p):=⟨rfl,rfl,rfl,litsP p,litP p rfl⟩
theorem cmpP_def (p q:Prefix):cmpP p q=if p.addr.toNat < q.addr.toNat then -1 else if q.addr.toNat < p.addr.toNat then 1 else if p.len.toNat < q.len.toNat then -1 else if q.len.toNat < p.len.toNat then 1 else 0:=by
 unfold cmpP orI cmpI
 simp only[Int.ofNat_lt]
 by_cases h1:p.addr.toNat < q.addr.toNat
 ·simp[h1]
 ·by_cases h2:q.addr.toNat < p.addr.toNat
  ·simp[h1,h2]
  ·by_cases h3:p.len.toNat < q.len.toNat
   ·simp[h1,h2,h3]
   ·by_cases h4:q.len.toNat < p.len.toNat<;>simp[h1,h2,h3,h4]
theorem pfx_eq {p q:Prefix} (h1:p.addr.toNat=q.addr.toNat) (h2:p.len.toNat=q.len.toNat):p=q:=by
 obtain⟨a,b⟩:=p
 obtain⟨c,d⟩:=q
 obtain rfl:a=c:=UInt32.toNat_inj.1 h1
 obtain rfl:b=d:=UInt8.toNat_inj.1 h2
 rfl
theorem equalP_ok (fr fr':Bool) (a b:List Prefix):PCon prog 108 [encPs fr a,encPs fr' b] (.bool (decide (a=b))):=by
 refine callV_of (fn:=Go.Proofs.Tryz.f108) (body:=_) tab_ok mixed rfl rfl (by decide) (by simp[Go.Proofs.Tryz.f108]) ?_
 conv=>whnf
 intro ha
 have ha:a.length≤maxLen:=by simpa[gd]using ha
 conv=>whnf
 intro hb
 conv=>whnf
 split
 ·rename_i hne
  conv=>whnf
  refine Ends.pure [] (.bool_of ?_) (by simp)
  symm
  rw[decide_eq_false_iff_not]
  rintro rfl
  simp at hne
 ·rename_i hne
  have hlen:a.length=b.length:=by simp at hne;omega
  conv=>whnf
  intro _
  conv=>whnf
  refine vcg_loop tab_ok mixed (fun i:{i:Nat // i≤a.length∧a.take i=b.take i}=>⟨[(0,encPs fr a),(1,encPs fr' b),(12,cI a.length),(13,.int .i64 i.1)],[],0⟩) (fun i=>a.length - i.1) ⟨0,by omega,rfl⟩ (Wk.of id [] ⟨.free (encPs_free _ _),.free (encPs_free _ _),.int_of (by simp),.int_of rfl,trivial⟩ (LeH.nil (Nat.le_refl _) (fun b h=>by omega) (by simp))) (fun i=>?_)
  obtain⟨i,hi,hr⟩:=i
  conv=>whnf
  split
  ·rename_i hc
   have hc:i < a.length:=by simpa using hc
   have hc':i < b.length:=by omega
   conv=>whnf
   refine ixK (idxP hc) ?_
   conv=>whnf
   refine ixK (idxP hc') ?_
   conv=>whnf
   refine neqP a[i] b[i] ?_
   conv=>whnf
   refine⟨by kernel_rfl,?_⟩
   conv=>whnf
   split
   ·rename_i h1
    conv=>whnf
    refine Ends.pure [] (.bool_of ?_) (by simp)
    symm
    rw[decide_eq_false_iff_not]
    rintro rfl
    simp at h1
   ·rename_i h1
    have h1:a[i]=b[i]:=by simpa using h1
    conv=>whnf
    exact⟨⟨i + 1,by omega,take_step hc hc' hr h1⟩,Wk.of id [] ⟨.free (encPs_free _ _),.free (encPs_free _ _),.int_of rfl,.int_of (wrap64_succ hc ha),trivial⟩ (LeH.nil (Nat.le_refl _) (fun b h=>by omega) (by simp)),by simp only;omega⟩
  ·rename_i hc
   have hc:i=a.length:=by simp at hc;omega
   subst hc
   rw[List.take_length,hlen,List.take_length]at hr
   conv=>whnf
   refine Ends.pure [] (.bool_of ?_) (by simp)
   simp[hr]
end
section
open Go.Shelf Go.Lib Go.Sort
open Go.Proofs.Tryz (prog)
theorem k76 (x:Int) (W:World):Calls prog 175 #[.int .u32 x] W fun e w'=>e=.returned (.bool false)∧w'=W:=by
 go_enter Go.Proofs.Tryz.func175,Go.Proofs.Tryz.ntmps175
 go_wp2
 go_ret
 exact⟨by simp,rfl⟩
theorem k41 (x y:Int) (W:World):Calls prog 146 #[.int .u32 x,.int .u32 y] W fun e w'=>e=.returned (.int .i64 (cmpI x y))∧w'=W:=by
 go_enter Go.Proofs.Tryz.func146,Go.Proofs.Tryz.ntmps146
 go_wp2_with (go_at_call 175;refine(k76 _ _).mono ?_;rintro e w' ⟨rfl,rfl⟩)
 all_goals (go_ret;refine⟨?_,rfl⟩;unfold cmpI;(repeat' split)<;>first|rfl|(exfalso;omega))
theorem k77 (x:Int) (W:World):Calls prog 176 #[.int .u8 x] W fun e w'=>e=.returned (.bool false)∧w'=W:=by
 go_enter Go.Proofs.Tryz.func176,Go.Proofs.Tryz.ntmps176
 go_wp2
 go_ret
 exact⟨by simp,rfl⟩
theorem k42 (x y:Int) (W:World):Calls prog 147 #[.int .u8 x,.int .u8 y] W fun e w'=>e=.returned (.int .i64 (cmpI x y))∧w'=W:=by
 go_enter Go.Proofs.Tryz.func147,Go.Proofs.Tryz.ntmps147
 go_wp2_with (go_at_call 176;refine(k77 _ _).mono ?_;rintro e w' ⟨rfl,rfl⟩)
 all_goals (go_ret;refine⟨?_,rfl⟩;unfold cmpI;(repeat' split)<;>first|rfl|(exfalso;omega))
def sel2 (a b:Int):Nat→Int
 | 0=>a
 | _=>b
def or2 (a b:Int):Int:=if a ≠ 0 then a else b
theorem k40 (blk c:Nat) (a b:Int) (W:World) (h0:W.cell? ⟨blk,0,none⟩=some (.int .i64 a)) (h1:W.cell? ⟨blk,1,none⟩=some (.int .i64 b)) :
  Calls prog 145 #[.slice (some ⟨blk,0,none⟩) 2 c] W fun e w'=>e=.returned (.int .i64 (or2 a b))∧w'=W:=by
 go_enter Go.Proofs.Tryz.func145,Go.Proofs.Tryz.ntmps145
 go_wp2
 go_loop [5,8] (fun _ i=>∃k:Nat,k≤2∧i=.int .i64 k∧(0 < k→a=0)∧(1 < k→b=0)) (fun _ i=>match i with|.int _ m=>2 - m.toNat|_=>0)
 case atStart=>exact⟨0,Nat.zero_le _,rfl,(fun h=>absurd h (Nat.lt_irrefl _)),(fun h=>absurd h (Nat.not_lt_zero _))⟩
 case round=>
  obtain⟨k,hk,rfl,q0,q1⟩:=hrel
  have hcell:(k:Int) < 2→W.cell? ⟨blk,k,none⟩=some (.int .i64 (sel2 a b k)):=fun h=>by
   rcases k with _|_|k
   ·exact h0
   ·exact h1
   ·omega
  go_wp2
  ·have hlt:(k:Int) < 2:=by assumption
   have heq:(sel2 a b k != 0)=true:=by assumption
   go_ret
   refine⟨?_,rfl⟩
   rcases k with _|_|k
   ·have:a ≠ 0:=by simpa[sel2]using heq
    show _=Ending.returned (.int .i64 (or2 a b))
    rw[or2,if_pos this]
    rfl
   ·rw[or2,if_neg (by simp[q0 (by omega)])]
    rfl
   ·omega
  ·have hlt:(k:Int) < 2:=by assumption
   have hneq:(sel2 a b k != 0)=false:=by assumption
   have hs:sel2 a b k=0:=by simpa using hneq
   refine⟨⟨k + 1,by omega,rfl,fun hj=>?_,fun hj=>?_⟩,by show 2 - ((k:Int)+ 1).toNat < 2 - (k:Int).toNat;omega⟩
   ·rcases k with _|_|k
    ·exact hs
    ·exact q0 (by omega)
    ·omega
   ·rcases k with _|_|k
    ·omega
    ·exact hs
    ·omega
  ·have hge:2≤(k:Int):=by assumption
   have e2:k=2:=by omega
   subst e2
   go_ret
   refine⟨?_,rfl⟩
   rw[or2,if_neg (by simp[q0 (by omega)]),q1 (by omega)]
   rfl
theorem k40v (W:World) (r s:Int) (ty:TypeId):Calls prog 145 #[.slice (some ⟨W.heap.size,0,none⟩) 2 2] (W.alloc (.cells #[.int .i64 r,.int .i64 s] ty)).drew fun e w'=>e=.returned (.int .i64 (or2 r s))∧w'=(W.alloc (.cells #[.int .i64 r,.int .i64 s] ty)).drew:=by
 have h:(W.alloc (.cells #[.int .i64 r,.int .i64 s] ty)).heap[W.heap.size]? = some (.cells #[.int .i64 r,.int .i64 s] ty (0,0)):=heap_alloc_new W _
 refine k40 _ _ r s _ ?_ ?_
 ·show World.cell? (W.alloc (.cells #[.int .i64 r,.int .i64 s] ty)) _=_
  simp only[World.cell?]
  erw [h]
  rfl
 ·show World.cell? (W.alloc (.cells #[.int .i64 r,.int .i64 s] ty)) _=_
  simp only[World.cell?]
  erw [h]
  rfl
def cmp2 (a b c d:Int):Int:=or2 (cmpI a c) (cmpI b d)
theorem k16 (a b c d:Int) (W:World):Calls prog 97 #[.agg #[.int .u32 a,.int .u8 b],.agg #[.int .u32 c,.int .u8 d]] W fun e w'=>e=.returned (.int .i64 (cmp2 a b c d))∧∃q os',w'=grow (W.drewN q) os':=by
 have g41:=k41 a c
 have g42:=k42 b d
 unfold cmp2
 generalize cmpI a c=r at g41 ⊢
 generalize cmpI b d=s at g42 ⊢
 go_enter Go.Proofs.Tryz.func97,Go.Proofs.Tryz.ntmps97
 go_wp2
 have f0:((W.alloc (Obj.cells #[Value.int IntKind.u32 a,Value.int IntKind.u8 b] 31)).alloc (Obj.cells #[Value.int IntKind.u32 c,Value.int IntKind.u8 d] 31)).heap[W.heap.size]? = some (Obj.cells #[Value.int IntKind.u32 a,Value.int IntKind.u8 b] 31):=by
  rw[Below.heap_alloc _ _ _ (by simp)];exact heap_alloc_new W _
 have f1:((W.alloc (Obj.cells #[Value.int IntKind.u32 a,Value.int IntKind.u8 b] 31)).alloc (Obj.cells #[Value.int IntKind.u32 c,Value.int IntKind.u8 d] 31)).heap[W.heap.size + 1]? = some (Obj.cells #[Value.int IntKind.u32 c,Value.int IntKind.u8 d] 31):=by
  have:=heap_alloc_new (W.alloc (Obj.cells #[Value.int IntKind.u32 a,Value.int IntKind.u8 b] 31)) (Obj.cells #[Value.int IntKind.u32 c,Value.int IntKind.u8 d] 31)
  simpa using this
 have fs:((W.alloc (Obj.cells #[Value.int IntKind.u32 a,Value.int IntKind.u8 b] 31)).alloc (Obj.cells #[Value.int IntKind.u32 c,Value.int IntKind.u8 d] 31))=grow W #[Obj.cells #[Value.int IntKind.u32 a,Value.int IntKind.u8 b] 31,Obj.cells #[Value.int IntKind.u32 c,Value.int IntKind.u8 d] 31]:=by
  rw[alloc_eq_grow,alloc_eq_grow,grow_grow];rfl
 generalize ((W.alloc (Obj.cells #[Value.int IntKind.u32 a,Value.int IntKind.u8 b] 31)).alloc (Obj.cells #[Value.int IntKind.u32 c,Value.int IntKind.u8 d] 31))=W2 at f0 f1 fs ⊢
 replace fs:=fs.symm
 have c0:W2.cell? ⟨W.heap.size,0,none⟩=some (.int .u32 a):=by simp[World.cell?,f0]
 have c1:W2.cell? ⟨W.heap.size,1,none⟩=some (.int .u8 b):=by simp[World.cell?,f0]
 have c2:W2.cell? ⟨W.heap.size + 1,0,none⟩=some (.int .u32 c):=by simp[World.cell?,f1]
 have c3:W2.cell? ⟨W.heap.size + 1,1,none⟩=some (.int .u8 d):=by simp[World.cell?,f1]
 refine wp_region_still_tail 10 (show prog.follows .mixedOrders=true from rfl) (by kernel_rfl) ?_
 change wpStill _ _ W2.drew _ _ _
 simp only[List.take_succ_cons,List.take_zero,List.drop_succ_cons,List.drop_zero]
 still_step
 still_step
 still_step
 still_step
 still_call (g41 _)
 still_step
 still_step
 still_step
 still_step
 still_call (g42 _)
 refine wpStill_nil ?_
 change wpList _ _ _ _ _ W2.drew
 go_wp2_with (go_at_call 145;refine(k40v _ _ _ _).mono ?_;rintro e w' ⟨rfl,rfl⟩)
 go_ret
 refine⟨rfl,1,#[Obj.cells #[Value.int IntKind.u32 a,Value.int IntKind.u8 b] 31,Obj.cells #[Value.int IntKind.u32 c,Value.int IntKind.u8 d] 31,Obj.cells #[Value.int IntKind.i64 r,Value.int IntKind.i64 s] 3],?_⟩
 subst fs
 show(World.alloc _ _).drew=_
 rw[alloc_eq_grow,grow_grow]
 rfl
end
section
open Go.Proofs.Tryz (prog)
attribute [local irreducible] CallV RoundV
instance:Inhabited Prefix:=⟨⟨0,0⟩⟩
def pkey (p:Prefix):Nat:=p.addr.toNat * 256 + p.len.toNat
theorem pkey_inj {p q:Prefix} (h:pkey p=pkey q):p=q:=by
 have h1:=p.len.toNat_lt
 have h2:=q.len.toNat_lt
 unfold pkey at h
 exact pfx_eq (by omega) (by omega)
theorem cmpP_lt (p q:Prefix):cmpP p q < 0↔pkey p < pkey q:=by
 have h1:=p.len.toNat_lt
 have h2:=q.len.toNat_lt
 rw[cmpP_def]
 unfold pkey
 repeat' split
 all_goals first|(constructor<;>intro _<;>omega)
theorem cmp2_P (p q:Prefix):cmp2 p.addr.toNat p.len.toNat q.addr.toNat q.len.toNat=cmpP p q:=by
 unfold cmp2 or2 cmpP orI
 by_cases h:cmpI p.addr.toNat q.addr.toNat=0
 ·by_cases h':cmpI p.len.toNat q.len.toNat=0<;>simp[h,h']
 ·simp[h]
theorem ltP (p q:Prefix):ltOf cmpP p q=decide (pkey p < pkey q):=by
 unfold ltOf
 rw[Bool.eq_iff_iff]
 simp only[decide_eq_true_eq]
 exact cmpP_lt p q
theorem swoP:Go.Sort.SWO (ltOf cmpP) where
 irrefl x:=by rw[ltP];simp
 trans x y z h1 h2:=by rw[ltP]at *;simp at *;omega
 ntrans x y z h1 h2:=by rw[ltP]at *;simp at *;omega
theorem totP (x y:Prefix) (h1:ltOf cmpP x y=false) (h2:ltOf cmpP y x=false):x=y:=by
 rw[ltP]at *
 simp at h1 h2
 exact pkey_inj (by omega)
def valP (p:Prefix):List Value:=[.int .u32 p.addr.toNat,.int .u8 p.len.toNat]
def sortPs (l:List Prefix):List Prefix:=l.mergeSort fun x y=>!(ltOf cmpP) y x
theorem sortPs_len (l:List Prefix):(sortPs l).length=l.length:=by unfold sortPs;exact List.length_mergeSort l
theorem flatP_len:∀l:List Prefix,(rowsP l).flatten.length=l.length * 2
 | []=>rfl
 | p :: l=>by
  have:=flatP_len l
  simp only[rowsP,List.map_cons,List.flatten_cons,List.length_append,List.length_cons]at this ⊢
  rw[this]
  simp[cellsP]
  omega
theorem flatP:∀(l:List Prefix) (j:Nat) (v:V),(rowsP l).flatten[j]? = some v→j < l.length * 2∧∀(G:Gh) (w:World) (u:Value),vr G w v u↔u=(valP (l.toArray[j / 2]!))[j % 2]!
 | [],j,v,h=>by simp at h
 | p :: l,0,v,h=>by
  simp[cellsP]at h
  subst h
  exact⟨by simp<;>omega,fun G w u=>⟨fun h=>by cases h;simp[valP],fun h=>by subst h;simp[valP];exact .int _ _⟩⟩
 | p :: l,1,v,h=>by
  simp[cellsP]at h
  subst h
  exact⟨by simp<;>omega,fun G w u=>⟨fun h=>by cases h;simp[valP],fun h=>by subst h;simp[valP];exact .int _ _⟩⟩
 | p :: l,j + 2,v,h=>by
  have h':(rowsP l).flatten[j]? = some v:=by simpa[cellsP]using h
  obtain⟨h1,h2⟩:=flatP l j v h'
  refine⟨by simp<;>omega,fun G w u=>?_⟩
  rw[h2 G w u]
  have e1:(j + 2) / 2=j / 2 + 1:=by omega
  have e2:(j + 2) % 2=j % 2:=by omega
  rw[e1,e2]
  simp
theorem flatP_at (l:List Prefix) (j:Nat) (h:j < l.length * 2):∃v,(rowsP l).flatten[j]? = some v:=
 ⟨_,List.getElem?_eq_getElem (by rw[flatP_len];exact h)⟩
theorem oneP (p:Prefix) (i:Nat):((valP p)[i]!).oneCell'=true:=by
 rcases i with _|_|i
 ·rfl
 ·rfl
 ·simp[valP];rfl
section
variable {w : World} {c : Nat} {cs : Array Value} {ty : TypeId} (hh : w.heap[c]? = some (.cells cs ty (0, 0)))
include hh
theorem sw_at (n:Nat) (d:Array Prefix) (os:Array Obj):(sortWorldK valP 2 w c 0 n d os).heap[c]? = some (.cells (Go.Sort.putCells id 0 (Go.Sort.flatK valP 2 d) cs) ty (0,0)):=by
 have hlt:c < w.heap.size:=(Array.getElem?_eq_some_iff.1 hh).1
 unfold sortWorldK Go.Sort.grow Go.Sort.putRowK Go.Sort.putRow Go.Sort.mapBlock
 show((w.heap.modify c _)++ os)[c]? = _
 rw[Array.getElem?_append_left (by simpa using hlt)]
 simp[Array.getElem?_modify,hh,Go.Sort.onCells]
end
theorem sw_other {w:World} {c:Nat} (n:Nat) (d:Array Prefix) (os:Array Obj) {k:Nat} (hk:k < w.heap.size) (hne:k ≠ c):(sortWorldK valP 2 w c 0 n d os).heap[k]? = w.heap[k]?:=by
 unfold sortWorldK Go.Sort.grow Go.Sort.putRowK Go.Sort.putRow Go.Sort.mapBlock
 show((w.heap.modify c _)++ os)[k]? = _
 rw[Array.getElem?_append_left (by simpa using hk)]
 simp[Array.getElem?_modify,Ne.symm hne]
theorem sw_size {w:World} {c:Nat} (n:Nat) (d:Array Prefix) (os:Array Obj):w.heap.size≤(sortWorldK valP 2 w c 0 n d os).heap.size:=by
 unfold sortWorldK Go.Sort.grow Go.Sort.putRowK Go.Sort.putRow Go.Sort.mapBlock
 show _≤((w.heap.modify c _)++ os).size
 simp
theorem sortF_ok (fr ex:Bool) (l:List Prefix) (hl:l.length < 4611686018427387904) :
  CallV prog 143 [.osl 0 2 0 l.length,.fn (.func 97) [] []] [(0,some (.arr fr ex 31 2 (rowsP l)))] 1 (fun v' h' nx'=>v'=.tup []∧h'=[(0,some (.arr fr ex 31 2 (rowsP (sortPs l))))]∧nx'=1):=by
 unfold CallV
 refine⟨⟨_,Go.Proofs.Tryz.func143⟩,fun G w us hr hv=>.inl ⟨⟨_,Go.Proofs.Tryz.func143,rfl,by decide⟩,?_⟩⟩
 obtain⟨u,u',rfl,hu,hu'⟩:=vrs_two hv
 obtain rfl:u'=.func (.func 97) #[] #[]:=by
  cases hu' with
  | fn _ _ _ us ws h1 h2 _ _=>
   cases us with
   | nil=>cases ws with
    | nil=>rfl
    | cons _ _=>simp at h2
   | cons _ _=>simp at h1
 have htup:∀{G:Gh} {w:World},vr G w (.tup []) (.tuple #[]):=fun {G w}=>.tup [] [] rfl (fun j v u h=>by simp at h)
 have hown:=hr.own 0 _ rfl
 by_cases h0:l=[]
 ·subst h0
  obtain⟨A,cap,rfl⟩:∃A cap,u=.slice A 0 cap:=by
   cases hu with
   | osl _ _ _ _ c cap m _ _ _ _ _=>exact⟨_,_,rfl⟩
   | oslz _ _ _ A=>exact⟨_,_,rfl⟩
  refine(AnyF.slices_SortFunc_none Go.Proofs.Tryz.sortPfx A cap _ w).mono ?_
  rintro e w' ⟨rfl,rfl⟩
  refine⟨_,_,_,_,G,rfl,⟨rfl,rfl,rfl⟩,htup,?_,Evo.refl _ _ _,Nat.le_refl _⟩
  have:sortPs []=[]:=by simp[sortPs]
  rw[this]
  exact hr
 have hpos:0 < l.length:=List.length_pos_iff.2 h0
 obtain⟨hrow,hH⟩:(∀x,x∈rowsP l→x.length=2)∧((G.ι 0=none∧rowsP l=[])∨Holds G w 0 fr ex 31 (rowsP l).flatten):=hown
 obtain⟨c,cs,hι,hh,hle,hex,hfr,hcell,hone⟩:Holds G w 0 fr ex 31 (rowsP l).flatten:=by
  rcases hH with⟨_,h⟩|h
  ·exact absurd (by simpa using h) h0
  ·exact h
 obtain⟨cap,rfl⟩:∃cap,u=.slice (some ⟨c,0,none⟩) l.toArray.size cap:=by
  generalize hn:l.length=n at hu
  cases hu with
  | osl _ _ _ _ c' cap m hc _ _ _ _=>
   rw[hι]at hc
   obtain rfl:=Option.some.inj hc
   exact⟨cap,by simp[hn]⟩
  | oslz _ _ _ A=>omega
 have hclt:c < w.heap.size:=hr.lt 0 c hι
 have hHK:Go.Sort.HoldsK valP 2 w c 0 l.toArray:=by
  intro j hj
  rw[Go.Sort.size_flatK]at hj
  have hj':j < l.length * 2:=by simpa using hj
  obtain⟨v,hv⟩:=flatP_at l j hj'
  obtain⟨u,hu,_,hvu⟩:=hcell j v hv
  rw[(flatP l j v hv).2 G w u]at hvu
  refine⟨?_,?_⟩
  ·rw[Go.Sort.get_flatK _ _ _ _ hj,← hvu]
   simp[World.cell?,hh,hu]
  ·simp only[World.frozen?,hh]
   rfl
 have hcmp:CmpLays prog 97 #[] valP 2 cmpP c 0 l.toArray.size w:=by
  intro m os dk _ x y
  have:=k16 x.addr.toNat x.len.toNat y.addr.toNat y.len.toNat (sortWorldK valP 2 w c 0 m dk os)
  rw[cmp2_P]at this
  exact this
 have eg:∀args w,(callFunc 97 args).run prog w=.ok (.enter 97 args) w:=enters_of Go.Proofs.Tryz.func97 (by kernel_rfl) rfl
 refine(AnyQ.slices_SortFunc_total Go.Proofs.Tryz.sortPfx 2 Go.Proofs.Tryz.isAgg31 Go.Proofs.Tryz.sizeOf31 valP (fun _=>rfl) (fun x v hv=>by simp[valP]at hv;rcases hv with rfl|rfl<;>rfl) cmpP swoP 97 #[] c 0 cap l.toArray w eg hcmp hHK hclt (by simpa using hl) totP).mono ?_
 rintro e w' ⟨rfl,n,os,rfl⟩
 have el:(l.toArray.toList.mergeSort fun x y=>!(ltOf cmpP) y x)=sortPs l:=rfl
 rw[el]
 have hapart:∀k,G.amb k→k ≠ c:=fun k hk e=>hr.apart 0 _ c rfl hι (e▸hk)
 have hat:=sw_at hh n (sortPs l).toArray os
 have hkeep:∀k,G.amb k→(sortWorldK valP 2 w c 0 n (sortPs l).toArray os).heap[k]? = w.heap[k]?:=fun k hk=>sw_other n _ os (hr.amb_lt k hk) (hapart k hk)
 have hsz:=sw_size (w:=w) (c:=c) n (sortPs l).toArray os
 have hcs:(Go.Sort.putCells id 0 (Go.Sort.flatK valP 2 (sortPs l).toArray) cs).size=cs.size:=by simp[Go.Sort.putCells]
 have hgot:∀j u,(Go.Sort.putCells id 0 (Go.Sort.flatK valP 2 (sortPs l).toArray) cs)[j]? = some u→(j < l.length * 2∧u=(valP ((sortPs l).toArray[j / 2]!))[j % 2]!)∨cs[j]? = some u:=by
  intro j u hj
  simp only[Go.Sort.putCells,Array.getElem?_mapIdx,Option.map_eq_some_iff]at hj
  obtain⟨x,hx,hj⟩:=hj
  split at hj
  ·rename_i hlt
   rw[Go.Sort.size_flatK]at hlt
   have h2:=hlt.2
   rw[Nat.zero_add]at h2
   left
   refine⟨by simpa[sortPs_len]using h2,?_⟩
   rw[← hj,Nat.sub_zero,Go.Sort.get_flatK _ _ _ _ h2]
   rfl
  ·right;rw[hx,hj]
 refine⟨_,_,_,_,G,rfl,⟨rfl,rfl,rfl⟩,htup,⟨fun k hk=>Nat.lt_of_lt_of_le (hr.amb_lt k hk) hsz,Nat.le_trans hr.B_le hsz,hr.dom,fun b blk hb=>?_,fun b b' k k' c' hb hb' _ _=>?_,fun b k c' hb hc'=>?_,fun b c' hc'=>Nat.lt_of_lt_of_le (hr.lt b c' hc') hsz,fun b k hb=>?_,hr.gl.to (fun _ h=>h) hkeep⟩,
  ⟨rfl,rfl,rfl,hsz,rfl,fun _ h=>h,hkeep,fun k m hm=>?_,fun _ _ _ h=>h,fun k hk hn=>sw_other n _ os hk (fun e=>hn 0 (e▸hι)),fun k hk _=>.inl hk,fun b k hk _=>⟨b,hk⟩⟩,Nat.le_refl _⟩
 ·rw[hget_cons]at hb
  split at hb
  ·rename_i e
   subst e
   cases hb
   refine⟨fun x hx=>?_,.inr ⟨c,_,hι,hat,?_,fun he=>?_,hfr,fun j v hj=>?_,fun j u hu=>?_⟩⟩
   ·obtain⟨p,_,rfl⟩:=List.mem_map.1 hx;rfl
   ·rw[hcs,flatP_len,sortPs_len,← flatP_len];exact hle
   ·rw[hcs,flatP_len,sortPs_len,← flatP_len];exact hex he
   ·obtain⟨hj',hvr⟩:=flatP _ j v hj
    rw[sortPs_len]at hj'
    have hlt:j < cs.size:=by rw[flatP_len]at hle;omega
    obtain⟨x,hx⟩:∃x,(Go.Sort.putCells id 0 (Go.Sort.flatK valP 2 (sortPs l).toArray) cs)[j]? = some x:=⟨_,Array.getElem?_eq_getElem (by rw[hcs];exact hlt)⟩
    have hxe:x=(valP ((sortPs l).toArray[j / 2]!))[j % 2]!:=by
     simp only[Go.Sort.putCells,Array.getElem?_mapIdx,Option.map_eq_some_iff]at hx
     obtain⟨y,hy,hx⟩:=hx
     have hj2:j < (sortPs l).toArray.size * 2:=by simpa[sortPs_len]using hj'
     rw[if_pos ⟨Nat.zero_le _,by rw[Go.Sort.size_flatK,Nat.zero_add];exact hj2⟩,Nat.sub_zero,Go.Sort.get_flatK _ _ _ _ hj2]at hx
     exact hx.symm
    exact⟨x,hx,by rw[hxe];exact oneP _ _,(hvr _ _ _).2 hxe⟩
   ·rcases hgot j u hu with⟨_,rfl⟩|h
    ·exact oneP _ _
    ·exact hone j u h
  ·simp[hget]at hb
 ·rw[hget_cons]at hb hb'
  split at hb
  ·split at hb'
   ·omega
   ·simp[hget]at hb'
  ·simp[hget]at hb
 ·rw[hget_cons]at hb
  split at hb
  ·rename_i e
   subst e
   exact hr.apart 0 _ c' rfl hc'
  ·simp[hget]at hb
 ·rw[hget_cons]at hb
  split at hb
  ·omega
  ·simp[hget]at hb
 ·by_cases e:k=c
  ·subst e
   unfold csz at hm ⊢
   rw[hat]
   rw[hh]at hm
   simpa[hcs]using hm
  ·have hlt:k < w.heap.size:=by
    unfold csz at hm
    split at hm
    ·rename_i e;exact(Array.getElem?_eq_some_iff.1 e).1
    ·cases hm
   unfold csz at hm ⊢
   rw[sw_other n _ os hlt e]
   exact hm
end
section
open Go.Proofs.Tryz (prog)
attribute [local irreducible] CallV RoundV aggK
def ddS (ds:List Prefix) (p:Prefix):List Prefix:=if prefOk p then(if p∈ds then ds else ds ++ [p])else ds
def dd (l:List Prefix):List Prefix:=l.foldl ddS []
theorem dd_succ {l:List Prefix} {i:Nat} (h:i < l.length):dd (l.take (i + 1))=ddS (dd (l.take i)) l[i]:=by
 unfold dd
 rw[List.take_succ_eq_append_getElem h,List.foldl_append]
 rfl
theorem ddS_len (ds:List Prefix) (p:Prefix):(ddS ds p).length≤ds.length + 1:=by
 unfold ddS
 split
 ·split<;>simp
 ·omega
theorem dd_len (l:List Prefix):(dd l).length≤l.length:=by
 have key:∀(l acc:List Prefix),(l.foldl ddS acc).length≤acc.length + l.length:=by
  intro l
  induction l with
  | nil=>intro acc;simp
  | cons p l ih=>
   intro acc
   have:=ih (ddS acc p)
   have:=ddS_len acc p
   simp only[List.foldl_cons,List.length_cons]
   omega
 have:=key l []
 simpa[dd]using this
def esP (ds:List Prefix):List (V × V):=ds.map fun p=>(encP p,.bool true)
theorem esP_free (ds:List Prefix):∀kv∈esP ds,Free kv.1∧Free kv.2:=by
 intro kv h
 obtain⟨p,_,rfl⟩:=List.mem_map.1 h
 exact⟨encP_free p,.bool⟩
theorem esP_keys (ds:List Prefix):KeysV tab 31 (esP ds):=by
 intro kv h
 obtain⟨p,_,rfl⟩:=List.mem_map.1 h
 exact keyP p
theorem encP_inj {p q:Prefix} (h:encP p=encP q):p=q:=by
 simp only[encP,cellsP,V.agg.injEq,List.cons.injEq,V.int.injEq,true_and,and_true]at h
 exact pfx_eq (by omega) (by omega)
theorem set_self {α:Type}:∀{l:List α} {i:Nat} {x:α},l[i]? = some x→l.set i x=l
 | [],_,_,h=>by simp at h
 | a :: l,0,x,h=>by simp at h;subst h;rfl
 | a :: l,i + 1,x,h=>by simp at h;simp[set_self h]
theorem put_ok (ds:List Prefix) (p:Prefix) (hp:prefOk p=true):∃r,MPos (esP ds) (encP p) r∧mput (esP ds) (encP p) (.bool true) r=esP (ddS ds p):=by
 by_cases h:p∈ds
 ·obtain⟨i,hi⟩:=List.getElem?_of_mem h
  have hi':(esP ds)[i]? = some (encP p,.bool true):=by simp[esP,hi]
  exact⟨some i,⟨_,hi'⟩,by simp only[mput,set_self hi'];rw[ddS,if_pos hp,if_pos h]⟩
 ·refine⟨none,fun kv hkv e=>?_,?_⟩
  ·obtain⟨q,hq,rfl⟩:=List.mem_map.1 hkv
   exact h (encP_inj e▸hq)
  ·rw[ddS,if_pos hp,if_neg h]
   simp[mput,esP]
theorem sortPs_sorted (l:List Prefix):(sortPs l).Pairwise (fun x y=>pkey x≤pkey y):=by
 have:=List.pairwise_mergeSort (le:=fun x y:Prefix=>!(ltOf cmpP) y x) (fun a b c h1 h2=>by simp[ltP]at *;omega) (fun a b=>by simp[ltP];omega) l
 exact this.imp fun h=>by simpa[ltP]using h
theorem sorted_eq:∀{a b:List Prefix},a.Perm b→a.Pairwise (fun x y=>pkey x≤pkey y)→b.Pairwise (fun x y=>pkey x≤pkey y)→a=b
 | [],b,h,_,_=>by simpa using h.length_eq.symm
 | x :: a,[],h,_,_=>by have:=h.length_eq;simp at this
 | x :: a,y :: b,h,h1,h2=>by
  rw[List.pairwise_cons]at h1 h2
  have e:x=y:=by
   have m1:x∈y :: b:=h.mem_iff.1 (by simp)
   have m2:y∈x :: a:=h.mem_iff.2 (by simp)
   rcases List.mem_cons.1 m1 with e|m1
   ·exact e
   ·rcases List.mem_cons.1 m2 with e|m2
    ·exact e.symm
    ·have q1:=h1.1 y m2
     have q2:=h2.1 x m1
     exact pkey_inj (by omega)
  subst e
  rw[sorted_eq (List.Perm.cons_inv h) h1.2 h2.2]
theorem sortPs_perm {a b:List Prefix} (h:a.Perm b):sortPs a=sortPs b:=
 sorted_eq (((List.mergeSort_perm a _).trans h).trans (List.mergeSort_perm b _).symm) (sortPs_sorted a) (sortPs_sorted b)
theorem esP_erase:∀(l:List Prefix) (k:Nat),(esP l).eraseIdx k=esP (l.eraseIdx k)
 | [],_=>by simp[esP]
 | p :: l,0=>by simp[esP]
 | p :: l,k + 1=>by simpa[esP]using esP_erase l k
theorem perm_erase:∀{l:List Prefix} {k:Nat} {p:Prefix},l[k]? = some p→(p :: l.eraseIdx k).Perm l
 | [],_,_,h=>by simp at h
 | a :: l,0,p,h=>by simp at h;subst h;simp
 | a :: l,k + 1,p,h=>by
  have h:l[k]? = some p:=by simpa using h
  rw[List.eraseIdx_cons_succ]
  exact(List.Perm.swap a p _).trans ((perm_erase h).cons a)
theorem perm_step {xs rest:List Prefix} {k:Nat} {p:Prefix} (h:rest[k]? = some p):((xs ++ [p])++ rest.eraseIdx k).Perm (xs ++ rest):=by
 rw[List.append_assoc]
 refine List.Perm.append_left xs ?_
 exact perm_erase h
theorem sort_ok (fr:Bool) (l:List Prefix) (hb:l.length≤1000):PCon prog 109 [encPs fr l] (encPs true (sortPs (dd l))):=by
 refine callV_of (fn:=Go.Proofs.Tryz.f109) (body:=_) tab_ok mixed rfl rfl (by decide) (by simp[Go.Proofs.Tryz.f109]) ?_
 conv=>whnf
 intro hl
 have hl:l.length≤maxLen:=by simpa[gd]using hl
 conv=>whnf
 refine vcg_loop tab_ok mixed (fun i:{i:Nat // i≤l.length}=>⟨[(3,.mapp 0),(7,encPs fr l),(8,cI l.length),(9,cI i.1)],[(0,some (.map (esP (dd (l.take i.1)))))],1⟩) (fun i=>l.length - i.1) ⟨0,by omega⟩ (Wk.of id [] ⟨.mapp rfl (by omega),.free (encPs_free _ _),.int_of (by simp),.int_of rfl,trivial⟩ (LeH.of ⟨⟨by omega,.inl ⟨by simp,_,rfl,LeB.map rfl (by simp)⟩⟩,trivial⟩ (fun _ _ _ _ h=>h) (fun _ _=>rfl) (by omega) (by simp))) (fun i=>?_)
 obtain⟨i,hi⟩:=i
 conv=>whnf
 split
 ·rename_i hc
  have hc:i < l.length:=by simpa using hc
  conv=>whnf
  refine ixK (idxP hc) ?_
  conv=>whnf
  refine callV_pure (uRight_ok l[i]) ⟨.free (encP_free _),trivial⟩ ?_
  conv=>whnf
  split
  ·rename_i hp
   conv=>whnf
   refine⟨esP_keys _,keyP _,?_⟩
   obtain⟨r,hr,hput⟩:=put_ok (dd (l.take i)) l[i] hp
   refine⟨r,hr,?_⟩
   have hput:mput (esP (dd (l.take i))) (encP l[i]) (.bool true) r=esP (dd (l.take (i + 1))):=by rw[dd_succ hc];exact hput
   conv=>whnf
   exact⟨⟨i + 1,by omega⟩,Wk.of id [] ⟨.mapp rfl (by omega),.free (encPs_free _ _),.int_of rfl,.int_of (wrap64_succ hc hl),trivial⟩ (LeH.of ⟨⟨by omega,.inl ⟨by simp,_,rfl,LeB.map hput (by have:=esP_free (dd (l.take (i + 1)));rw[← hput]at this;exact this)⟩⟩,trivial⟩ (fun _ _ _ _ h=>h) (fun _ _=>rfl) (by omega) (by simp)),by simp only;omega⟩
  ·rename_i hp
   conv=>whnf
   refine⟨⟨i + 1,by omega⟩,Wk.of id [] ⟨.mapp rfl (by omega),.free (encPs_free _ _),.int_of rfl,.int_of (wrap64_succ hc hl),trivial⟩ (LeH.of ⟨⟨by omega,.inl ⟨by simp,_,rfl,LeB.map ?_ (esP_free _)⟩⟩,trivial⟩ (fun _ _ _ _ h=>h) (fun _ _=>rfl) (by omega) (by simp)),by simp only;omega⟩
   rw[dd_succ hc,ddS,if_neg (by simpa using hp)]
 ·rename_i hc
  have hc:i=l.length:=by simp at hc;omega
  subst hc
  conv=>whnf
  refine callV_freeze (args':=[.imap false (esP (dd l))]) [0] (h':=[]) (LeH.nil (by omega) (fun _ _=>rfl) (one_none rfl)) ⟨.freezeM (by simp) rfl (by simp only[List.take_length]) (esP_free _),trivial⟩ ?_
  refine callV_of (fn:=Go.Proofs.Tryz.f151) (body:=_) tab_ok mixed rfl rfl (by decide) (by simp[Go.Proofs.Tryz.f151]) ?_
  conv=>whnf
  refine⟨_,_,_,Ends.here,?_⟩
  conv=>whnf
  refine callV_of (fn:=Go.Proofs.Tryz.f95) (body:=_) tab_ok mixed rfl rfl (by decide) (by simp[Go.Proofs.Tryz.f95]) ?_
  conv=>whnf
  refine callV_of (fn:=Go.Proofs.Tryz.f142) (body:=_) tab_ok mixed rfl rfl (by decide) (by simp[Go.Proofs.Tryz.f142]) ?_
  conv=>whnf
  refine callV_of (fn:=Go.Proofs.Tryz.f172) (body:=_) tab_ok mixed rfl rfl (by decide) (by simp[Go.Proofs.Tryz.f172]) ?_
  conv=>whnf
  refine callV_loop [(2,.ptr 2 0)] ⟨rfl,trivial⟩ fun asg' body' hasg hbody=>?_
  refine callV_of (fn:=Go.Proofs.Tryz.f179) (body:=_) tab_ok mixed rfl rfl (by decide) (by simp[Go.Proofs.Tryz.f179]) ?_
  conv=>whnf
  refine vcg_loop tab_ok mixed (fun p:{p:List Prefix × List Prefix // (p.1 ++ p.2).Perm (dd l)}=>⟨[(0,.yld 3),(5,.ptr 4 0)],[(3,some (.loop 13 [(2,.ptr 2 0)] [7] asg' body' .ready none)),(2,some (.var true 84 [.osl 5 2 0 p.1.1.length])),(4,some (.iter none (esP p.1.2))),(5,some (.arr true false 31 2 (rowsP p.1.1)))],6⟩) (fun p=>p.1.2.length) ⟨([],dd l),by simp⟩ ?_ (fun p=>?_)
  ·refine Wk.of id [] ⟨.yld rfl (by omega),.ptr rfl (by omega),trivial⟩ (LeH.of ⟨⟨by omega,.inl ⟨by simp,_,rfl,rfl,rfl,rfl,rfl,rfl,rfl,.ptr rfl (by omega),trivial⟩⟩,⟨by omega,.inl ⟨by simp,_,rfl,id,rfl,.osl0,trivial⟩⟩,⟨by omega,.inl ⟨by simp,_,rfl,LeB.iter rfl (esP_free _)⟩⟩,⟨by omega,.inr ⟨by simp,_,_,_,_,rfl⟩⟩,trivial⟩ (fun _ _ _ _ h=>h) (fun _ _=>rfl) (by omega) (by simp))
  obtain⟨⟨xs,rest⟩,hp⟩:=p
  conv=>whnf
  refine⟨fun h0=>?_,fun k kv hk=>?_⟩
  ·have h0:rest=[]:=by simpa[esP]using h0
   subst h0
   rw[List.append_nil]at hp
   conv=>whnf
   refine⟨_,_,_,Ends.here,?_⟩
   conv=>whnf
   refine⟨_,_,_,Ends.here,?_⟩
   conv=>whnf
   refine⟨_,_,_,Ends.here,?_⟩
   conv=>whnf
   have hxl:xs.length≤1000:=by
    have h1:xs.length=(dd l).length:=by have:=hp.length_eq;simpa using this
    have h2:=dd_len l
    omega
   refine callV_frame (nx:=6) (n0:=1) (renOf [(0,5)]) (sortF_ok true false xs (by omega)) (by repeat' (first|exact True.intro|exact .osl_of rfl (by omega) rfl|exact .free (.fn (by simp) (by simp))|exact LeB.arrE rfl (rowsP_free _) id id|exact .A|exact LeL.fr rfl|refine⟨?_,?_⟩)) (LeH.of (by repeat' (first|exact LHa|exact .osl_of rfl (by omega) rfl|exact .free (.fn (by simp) (by simp))|exact LeB.arrE rfl (rowsP_free _) id id|exact .A|exact LeL.fr rfl|exact LHb|refine Or.inl ⟨by simp,_,rfl,?_⟩|exact Or.inr ⟨by simp,_,_,_,_,rfl⟩|refine⟨rfl,rfl,rfl,rfl,rfl,rfl,?_⟩|refine⟨?_,?_⟩)) (show ∀b∈([0]:List Nat),∀b'∈([0]:List Nat),(renOf [(0,5)]) b=(renOf [(0,5)]) b'→b=b' by decide) (fun _ h=>by omega) (by omega) (by simp)) (fun b hb=>by match b,hb with|0,_=>exact ne_none_of rfl) (by decide) ?_
   rintro v h' nx' ⟨rfl,rfl,rfl⟩ _
   refine⟨.tup [],[(5,some (.arr true false 31 2 (rowsP (sortPs xs))))],.free (.tup (by simp)),(by repeat' (first|exact True.intro|exact Or.inr ⟨by decide,rfl⟩|exact Or.inl ⟨0,rfl,by omega,_,rfl,RenB.arr (rowsP_free _)⟩|refine⟨?_,?_⟩)),?_⟩
   conv=>whnf
   refine⟨_,_,_,Ends.here,?_⟩
   conv=>whnf
   have hs:sortPs xs=sortPs (dd l):=sortPs_perm (by simpa using hp)
   exact Ends.pure [5] (LeV.freeze_of (by simp) rfl (by simp[sortPs_len]) (rowsP_free _) (by rw[hs];exact List.take_of_length_le (by simp[sortPs_len,← hs]))) (one_none rfl)
  ·obtain⟨p,hpk,rfl⟩:∃p,rest[k]? = some p∧kv=(encP p,.bool true):=by
    simp only[esP,List.getElem?_map,Option.map_eq_some_iff]at hk
    obtain⟨p,h1,h2⟩:=hk
    exact⟨p,h1,h2.symm⟩
   conv=>whnf
   subst hasg hbody
   refine roundV_of tab_ok mixed rfl (by simp) (show 3 < 7 by omega) ?_
   conv=>whnf
   have hlen:xs.length + 1≤1000:=by
    have h1:=hp.length_eq
    have h2:=dd_len l
    have h3:k < rest.length:=(List.getElem?_eq_some_iff.1 hpk).1
    simp only[List.length_append]at h1
    omega
   refine⟨rfl,by first|rfl|(simp;done),by first|rfl|(simp;done),⟨rfl,rfl,rfl,rfl,by decide⟩,by simp[rowsP],⟨by simp[tab,tabOf,nth];omega,by simp;omega⟩,?_⟩
   conv=>whnf
   refine⟨rfl,?_⟩
   conv=>whnf
   have hperm:((xs ++ [p])++ rest.eraseIdx k).Perm (dd l):=(perm_step hpk).trans hp
   refine⟨⟨(xs ++ [p],rest.eraseIdx k),hperm⟩,Wk.of (renOf [(5,9)]) [] ⟨.yld rfl (by omega),.ptr rfl (by omega),trivial⟩ (LeH.of ⟨⟨by omega,.inl ⟨by simp,_,rfl,rfl,rfl,rfl,rfl,rfl,rfl,.ptr rfl (by omega),trivial⟩⟩,⟨by omega,.inl ⟨by simp,_,rfl,id,rfl,.osl_of rfl (by omega) (by simp),trivial⟩⟩,⟨by omega,.inl ⟨by simp,_,rfl,LeB.iter (esP_erase rest k) (fun kv h=>esP_free _ kv (List.mem_of_mem_eraseIdx h))⟩⟩,⟨by omega,.inl ⟨by simp,_,rfl,LeB.arrE (by simp[rowsP];exact⟨List.take_of_length_le (by simp),rfl⟩) (fun x hx v hv=>by
    rcases List.mem_append.1 hx with h|h
    ·exact rowsP_free xs x (List.mem_of_mem_take h) v hv
    ·simp at h;subst h;simp at hv;rcases hv with rfl|rfl<;>exact .int) id id⟩⟩,trivial⟩ (show ∀b∈([3,2,4,5]:List Nat),∀b'∈([3,2,4,5]:List Nat),renOf [(5,9)] b=renOf [(5,9)] b'→b=b' by decide) (show ∀b,b < 4→renOf [(5,9)] b=b by decide) (by omega) (by simp)),?_⟩
   show(rest.eraseIdx k).length < rest.length
   have:=(List.getElem?_eq_some_iff.1 hpk).1
   rw[List.length_eraseIdx]
   split<;>omega
end
section
open Go.Proofs.Tryz (prog)
attribute [local irreducible] CallV RoundV aggK
theorem cmpP_gt (p q:Prefix):0 < cmpP p q↔pkey q < pkey p:=by
 have h1:=p.len.toNat_lt
 have h2:=q.len.toNat_lt
 rw[cmpP_def]
 unfold pkey
 repeat' split
 all_goals first|(constructor<;>intro _<;>omega)
theorem mem_sortPs {l:List Prefix} {p:Prefix}:p∈sortPs l↔p∈l:=(List.mergeSort_perm l _).mem_iff
end
section
open Go.Proofs.Tryz (prog)
def riseOk (l:List Prefix):Prop:=∀(j:Nat) (h:j < l.length),prefOk l[j]=true∧∀h0:0 < j,pkey l[j - 1] < pkey l[j]
def riseP (l:List Prefix):Bool:=decide (sortPs (dd l)=l)
theorem strict_of_rise:∀{l:List Prefix},riseOk l→l.Pairwise (fun x y=>pkey x < pkey y)
 | [],_=>.nil
 | [x],_=>by simp
 | x :: y :: l,h=>by
  have ht:riseOk (y :: l):=fun j hj=>⟨(h (j + 1) (by simp at hj ⊢;omega)).1,fun h0=>by
   have:=(h (j + 1) (by simp at hj ⊢;omega)).2 (by omega)
   obtain⟨j',rfl⟩:∃j',j=j' + 1:=⟨j - 1,by omega⟩
   simpa using this⟩
  have hs:=strict_of_rise ht
  have h1:pkey x < pkey y:=(h 1 (by simp)).2 (by omega)
  rw[List.pairwise_cons]at hs ⊢
  refine⟨fun z hz=>?_,List.pairwise_cons.2 hs⟩
  rcases List.mem_cons.1 hz with rfl|hz
  ·exact h1
  ·have:=hs.1 z hz;omega
theorem rise_of_strict {l:List Prefix} (hr:∀p∈l,prefOk p=true) (hs:l.Pairwise (fun x y=>pkey x < pkey y)):riseOk l:=fun j h=>
 ⟨hr _ (List.getElem_mem h),fun h0=>List.pairwise_iff_getElem.1 hs (j - 1) j (by omega) h (by omega)⟩
theorem dd_mem {l:List Prefix} {p:Prefix} (h:p∈dd l):p∈l∧prefOk p=true:=by
 have key:∀(l acc:List Prefix),p∈l.foldl ddS acc→p∈acc∨(p∈l∧prefOk p=true):=by
  intro l
  induction l with
  | nil=>intro acc h;exact .inl h
  | cons x l ih=>
   intro acc h
   rcases ih _ h with h1|⟨h1,h2⟩
   ·unfold ddS at h1
    split at h1
    ·rename_i hx
     split at h1
     ·exact .inl h1
     ·rcases List.mem_append.1 h1 with h1|h1
      ·exact .inl h1
      ·obtain rfl:=List.mem_singleton.1 h1
       exact .inr ⟨by simp,hx⟩
    ·exact .inl h1
   ·exact .inr ⟨by simp[h1],h2⟩
 rcases key l [] h with h|h
 ·cases h
 ·exact h
theorem dd_nodup (l:List Prefix):(dd l).Nodup:=by
 have key:∀(l acc:List Prefix),acc.Nodup→(l.foldl ddS acc).Nodup:=by
  intro l
  induction l with
  | nil=>intro acc h;exact h
  | cons x l ih=>
   intro acc h
   refine ih _ ?_
   unfold ddS
   split
   ·split
    ·exact h
    ·rename_i hn
     rw[List.nodup_append]
     exact⟨h,by simp,fun a ha b hb e=>by simp at hb;subst hb;subst e;exact hn ha⟩
   ·exact h
 exact key l [] (by simp)
theorem dd_self {l:List Prefix} (hr:∀p∈l,prefOk p=true) (hn:l.Nodup):dd l=l:=by
 have key:∀(l acc:List Prefix),(∀p∈l,prefOk p=true)→(acc ++ l).Nodup→l.foldl ddS acc=acc ++ l:=by
  intro l
  induction l with
  | nil=>intro acc _ _;simp
  | cons x l ih=>
   intro acc hr hn
   have hx:x ∉ acc:=fun hm=>by
    rw[List.nodup_append]at hn
    exact hn.2.2 x hm x (by simp) rfl
   rw[List.foldl_cons,ddS,if_pos (hr x (by simp)),if_neg hx,ih _ (fun p hp=>hr p (by simp[hp])) (by simpa using hn)]
   simp
 exact key l [] hr (by simpa using hn)
theorem nodup_of_strict {l:List Prefix} (hs:l.Pairwise (fun x y=>pkey x < pkey y)):l.Nodup:=hs.imp fun h e=>by subst e;exact Nat.lt_irrefl _ h
theorem riseP_iff {l:List Prefix}:riseP l=true↔riseOk l:=by
 unfold riseP
 rw[decide_eq_true_eq]
 constructor
 ·intro h
  have hr:∀p∈l,prefOk p=true:=fun p hp=>by
   rw[← h]at hp
   exact(dd_mem (mem_sortPs.1 hp)).2
  have hn:l.Nodup:=by
   rw[← h]
   exact(List.mergeSort_perm (dd l) _).nodup_iff.2 (dd_nodup l)
  have hs:=sortPs_sorted (dd l)
  rw[h]at hs
  refine rise_of_strict hr ?_
  have:=List.pairwise_and_iff.2 ⟨hs,hn⟩
  exact this.imp fun⟨h1,h2⟩=>by
   rcases Nat.lt_or_ge (pkey _) (pkey _)with h|h
   ·exact h
   ·exact absurd (pkey_inj (by omega)) h2
 ·intro h
  have hs:=strict_of_rise h
  have hr:∀p∈l,prefOk p=true:=fun p hp=>by
   obtain⟨j,hj,rfl⟩:=List.getElem_of_mem hp
   exact(h j hj).1
  rw[dd_self hr (nodup_of_strict hs)]
  exact sorted_eq (List.mergeSort_perm l _) (sortPs_sorted l) (hs.imp fun h=>Nat.le_of_lt h)
end
section
open Go.Proofs.Tryz (prog)
attribute [local irreducible] CallV RoundV aggK
theorem urise_ok (fr:Bool) (l:List Prefix) (hb:l.length≤1000):PCon prog 61 [encPs fr l] (.bool (riseP l)):=by
 refine callV_of (fn:=Go.Proofs.Tryz.f61) (body:=_) tab_ok mixed rfl rfl (by decide) (by simp[Go.Proofs.Tryz.f61]) ?_
 conv=>whnf
 refine callV_pure (sort_ok fr l hb) ⟨.free (encPs_free _ _),trivial⟩ ?_
 conv=>whnf
 refine callV_pure (equalP_ok true fr (sortPs (dd l)) l) ⟨.free (encPs_free _ _),.free (encPs_free _ _),trivial⟩ ?_
 conv=>whnf
 exact(Ends.pA)
theorem any_none {l:List Prefix} {q:Prefix→Bool} {i:Nat} (hc:i < l.length) (hz:(l.take i).any q=false) (h:q l[i]=false):(l.take (i + 1)).any q=false:=by
 rw[List.take_succ_eq_append_getElem hc,List.any_append,hz]
 simpa using h
theorem indexP_ok (fr:Bool) (l:List Prefix) (p:Prefix):∃n:Int,PCon prog 153 [encPs fr l,encP p] (.int .i64 n)∧(0≤n↔l.any (fun x=>decide (p=x))=true):=by
 refine⟨if l.any (fun x=>decide (p=x))then(l.findIdx (fun x=>decide (p=x)):Nat)else -1,?_,by split<;>rename_i h<;>simp[h]⟩
 refine callV_of (fn:=Go.Proofs.Tryz.f153) (body:=_) tab_ok mixed rfl rfl (by decide) (by simp[Go.Proofs.Tryz.f153]) ?_
 conv=>whnf
 intro hl
 have hl:l.length≤maxLen:=by simpa[gd]using hl
 conv=>whnf
 refine vcg_loop tab_ok mixed (fun i:{i:Nat // i≤l.length∧(l.take i).any (fun x=>decide (p=x))=false}=>⟨[(0,encPs fr l),(3,.ptr 0 0),(7,cI l.length),(8,cI i.1)],[(0,some (.var true 31 (cellsP p)))],1⟩) (fun i=>l.length - i.1) ⟨0,by omega,by simp⟩ (Wk.of id [] ⟨.free (encPs_free _ _),.ptr rfl (by omega),.int_of (by simp),.int_of rfl,trivial⟩ (LeH.same ⟨⟨rfl,cellsP_free p,by omega⟩,trivial⟩ (by omega))) (fun i=>?_)
 obtain⟨i,hi,hz⟩:=i
 conv=>whnf
 split
 ·rename_i hc
  have hc:i < l.length:=by simpa using hc
  conv=>whnf
  refine ixK (idxP hc) ?_
  conv=>whnf
  refine eqlP p l[i] ?_
  conv=>whnf
  refine⟨by kernel_rfl,?_⟩
  conv=>whnf
  split
  ·rename_i h1
   have h1:p=l[i]:=by simpa using h1
   conv=>whnf
   refine Ends.pure [] (.int_of ?_) (by simp)
   have ha:l.any (fun x=>decide (p=x))=true:=List.any_eq_true.2 ⟨l[i],List.getElem_mem hc,by simp[h1]⟩
   rw[if_pos ha]
   congr 1
   symm
   rw[List.findIdx_eq hc]
   refine⟨by simp[h1],fun j hj=>?_⟩
   have:=List.any_eq_false.1 hz (l[j]'(by omega)) (by rw[List.mem_take_iff_getElem];exact⟨j,by omega,rfl⟩)
   simpa using this
  ·rename_i h1
   have h1:decide (p=l[i])=false:=by simpa using h1
   conv=>whnf
   exact⟨⟨i + 1,by omega,any_none hc hz h1⟩,Wk.of id [] ⟨.free (encPs_free _ _),.ptr rfl (by omega),.int_of rfl,.int_of (wrap64_succ hc hl),trivial⟩ (LeH.same ⟨⟨rfl,cellsP_free p,by omega⟩,trivial⟩ (by omega)),by simp only;omega⟩
 ·rename_i hc
  have hc:i=l.length:=by simp at hc;omega
  subst hc
  rw[List.take_length]at hz
  conv=>whnf
  refine Ends.pure [] (.int_of ?_) (by simp)
  rw[if_neg (by simp only[hz];decide)]
theorem containsP_ok (fr:Bool) (l:List Prefix) (p:Prefix):PCon prog 112 [encPs fr l,encP p] (.bool (l.any (fun x=>decide (p=x)))):=by
 obtain⟨n,hn,hiff⟩:=indexP_ok fr l p
 refine callV_of (fn:=Go.Proofs.Tryz.f112) (body:=_) tab_ok mixed rfl rfl (by decide) (by simp[Go.Proofs.Tryz.f112]) ?_
 conv=>whnf
 refine callV_pure hn ⟨.free (encPs_free _ _),.free (encP_free _),trivial⟩ ?_
 conv=>whnf
 refine(Ends.pure [] (by repeat' (first|exact True.intro|exact .bool_of (by rw[Bool.eq_iff_iff,← hiff];simp)|exact .A|exact LeL.fr rfl|refine .tupL ?_|refine .aggL ?_|refine⟨?_,?_⟩)) (by simp))
theorem indexFuncP_ok (fr:Bool) (l:List Prefix) (g:FuncId) (caps:List V) (q:Prefix→Bool) (hg:∀p,PCon prog g ([]++ [encP p]++ caps) (.bool (q p))) (hf:∀v∈caps,Free v):∃n:Int,PCon prog 152 [encPs fr l,.fn (.func g) [] caps] (.int .i64 n)∧(0≤n↔l.any q=true):=by
 refine⟨if l.any q then(l.findIdx q:Nat)else -1,?_,by split<;>rename_i h<;>simp[h]⟩
 refine callV_of (fn:=Go.Proofs.Tryz.f152) (body:=_) tab_ok mixed rfl rfl (by decide) (by simp[Go.Proofs.Tryz.f152]) ?_
 conv=>whnf
 intro hl
 have hl:l.length≤maxLen:=by simpa[gd]using hl
 conv=>whnf
 refine vcg_loop tab_ok mixed (fun i:{i:Nat // i≤l.length∧(l.take i).any q=false}=>⟨[(0,encPs fr l),(1,.fn (.func g) [] caps),(7,cI l.length),(8,cI i.1)],[],0⟩) (fun i=>l.length - i.1) ⟨0,by omega,by simp⟩ (Wk.of id [] ⟨.free (encPs_free _ _),.free (.fn (by simp) hf),.int_of (by simp),.int_of rfl,trivial⟩ (LeH.nil (Nat.le_refl _) (fun b h=>by omega) (by simp))) (fun i=>?_)
 obtain⟨i,hi,hz⟩:=i
 conv=>whnf
 split
 ·rename_i hc
  have hc:i < l.length:=by simpa using hc
  have hq:=hg l[i]
  conv=>whnf
  refine ixK (idxP hc) ?_
  conv=>whnf
  refine callV_pure hq (LeL.freeV (fun v hv=>?_)) ?_
  ·rcases List.mem_append.1 hv with h|h
   ·obtain rfl:=List.mem_singleton.1 h;exact encP_free _
   ·exact hf v h
  conv=>whnf
  split
  ·rename_i h1
   conv=>whnf
   refine Ends.pure [] (.int_of ?_) (by simp)
   have ha:l.any q=true:=List.any_eq_true.2 ⟨l[i],List.getElem_mem hc,h1⟩
   rw[if_pos ha]
   congr 1
   symm
   rw[List.findIdx_eq hc]
   refine⟨h1,fun j hj=>?_⟩
   have:=List.any_eq_false.1 hz (l[j]'(by omega)) (by rw[List.mem_take_iff_getElem];exact⟨j,by omega,rfl⟩)
   simpa using this
  ·rename_i h1
   conv=>whnf
   exact⟨⟨i + 1,by omega,any_none hc hz (by simpa using h1)⟩,Wk.of id [] ⟨.free (encPs_free _ _),.free (.fn (by simp) hf),.int_of rfl,.int_of (wrap64_succ hc hl),trivial⟩ (LeH.nil (Nat.le_refl _) (fun b h=>by omega) (by simp)),by simp only;omega⟩
 ·rename_i hc
  have hc:i=l.length:=by simp at hc;omega
  subst hc
  rw[List.take_length]at hz
  conv=>whnf
  refine Ends.pure [] (.int_of ?_) (by simp)
  rw[if_neg (by simp[hz])]
theorem containsFuncP_ok (fr:Bool) (l:List Prefix) (g:FuncId) (caps:List V) (q:Prefix→Bool) (hg:∀p,PCon prog g ([]++ [encP p]++ caps) (.bool (q p))) (hf:∀v∈caps,Free v):PCon prog 110 [encPs fr l,.fn (.func g) [] caps] (.bool (l.any q)):=by
 obtain⟨n,hn,hiff⟩:=indexFuncP_ok fr l g caps q hg hf
 refine callV_of (fn:=Go.Proofs.Tryz.f110) (body:=_) tab_ok mixed rfl rfl (by decide) (by simp[Go.Proofs.Tryz.f110]) ?_
 conv=>whnf
 refine callV_pure hn ⟨.free (encPs_free _ _),.free (.fn (by simp) hf),trivial⟩ ?_
 conv=>whnf
 refine(Ends.pure [] (by repeat' (first|exact True.intro|exact .bool_of (by rw[Bool.eq_iff_iff,← hiff];simp)|exact .A|exact LeL.fr rfl|refine .tupL ?_|refine .aggL ?_|refine⟨?_,?_⟩)) (by simp))
end
section
open Go.Proofs.Tryz (prog)
attribute [local irreducible] CallV RoundV aggK
theorem LeV.fz9 {h:Heap} {nx nx':Nat} {ρ:Nat→Nat} {Z:List Nat} {b:Nat} {fr:Bool} {ty:TypeId} {cells:List V} (hz:b∈Z) (hb:hget h b=some (.var fr ty cells)) (hf:∀v∈cells,Free v):LeV h nx ρ nx' Z (.ptr b 0) (.iptr fr cells):=LeV.freezeP (col:=0) hz hb hf
def apartP (a b:List Prefix):Bool:=!a.any (fun x=>b.any (fun y=>decide (x=y)))
theorem apart1_ok (fr:Bool) (b:List Prefix) (p:Prefix):PCon prog 111 ([]++ [encP p]++ [.iptr true [encPs fr b]]) (.bool (b.any (fun y=>decide (p=y)))):=by
 show PCon prog 111 [encP p,.iptr true [encPs fr b]] _
 refine callV_of (fn:=Go.Proofs.Tryz.f111) (body:=_) tab_ok mixed rfl rfl (by decide) (by simp[Go.Proofs.Tryz.f111]) ?_
 conv=>whnf
 refine callV_pure (containsP_ok fr b p) ⟨.free (encPs_free _ _),.free (encP_free _),trivial⟩ ?_
 conv=>whnf
 exact(Ends.pA)
theorem uapart_ok (fr fr':Bool) (a b:List Prefix):PCon prog 62 [encPs fr a,encPs fr' b] (.bool (apartP a b)):=by
 refine callV_of (fn:=Go.Proofs.Tryz.f62) (body:=_) tab_ok mixed rfl rfl (by decide) (by simp[Go.Proofs.Tryz.f62]) ?_
 conv=>whnf
 refine callV_freeze (args':=[encPs fr a,.fn (.func 111) [] [.iptr true [encPs fr' b]]]) [0] (h':=[]) (LeH.nil (by omega) (fun _ _=>rfl) (one_none rfl)) ⟨.free (encPs_free _ _),.fnL trivial ⟨.fz9 (by simp) rfl (by intro v hv;obtain rfl:=List.mem_singleton.1 hv;exact encPs_free _ _),trivial⟩,trivial⟩ ?_
 refine callV_pure (containsFuncP_ok fr a 111 [.iptr true [encPs fr' b]] (fun x=>b.any (fun y=>decide (x=y))) (fun p=>apart1_ok fr' b p) (by intro v hv;obtain rfl:=List.mem_singleton.1 hv;exact .iptr (by intro v hv;obtain rfl:=List.mem_singleton.1 hv;exact encPs_free _ _))) ⟨.free (encPs_free _ _),.free (.fn (by simp) (by intro v hv;obtain rfl:=List.mem_singleton.1 hv;exact .iptr (by intro v hv;obtain rfl:=List.mem_singleton.1 hv;exact encPs_free _ _))),trivial⟩ ?_
 conv=>whnf
 exact(Ends.pA)
end
section
open Go.Proofs.Tryz (prog)
attribute [local irreducible] CallV RoundV aggK
structure Upd where
 gone:List Prefix
 new:List Prefix
 attrs:Attrs
deriving DecidableEq
def cellsU (fr:Bool) (u:Upd):List V:=encPs fr u.gone :: encPs fr u.new :: cellsA fr u.attrs
def encU (fr:Bool) (u:Upd):V:=.agg (cellsU fr u)
theorem cellsU_free (fr:Bool) (u:Upd):∀v∈cellsU fr u,Free v:=by
 intro v hv
 rcases List.mem_cons.1 hv with rfl|hv
 ·exact encPs_free _ _
 rcases List.mem_cons.1 hv with rfl|hv
 ·exact encPs_free _ _
 ·exact cellsA_free _ _ v hv
theorem encU_free (fr:Bool) (u:Upd):Free (encU fr u):=.agg (cellsU_free fr u)
end
section
open Go.Proofs.Tryz (prog)
attribute [local irreducible] CallV RoundV aggK
instance {fr l}:FreeI (encPs fr l):=⟨⟨encPs_free fr l⟩⟩
instance {l}:FreeRI (rowsP l):=⟨⟨rowsP_free l⟩⟩
instance {fr u}:FreeI (encU fr u):=⟨⟨encU_free fr u⟩⟩
instance {fr u}:FreeLI (cellsU fr u):=⟨⟨cellsU_free fr u⟩⟩
def nP (p:Prefix):Nat:=(p.len.toNat + 7) / 8
def prefB (p:Prefix):List UInt8:=p.len :: (fourB p.addr).take (nP p)
def prefsB (l:List Prefix):List UInt8:=l.flatMap prefB
theorem prefsB_succ {l:List Prefix} {i:Nat} (h:i < l.length):prefsB (l.take (i + 1))=prefsB (l.take i)++ prefB l[i]:=by
 unfold prefsB
 rw[List.take_succ_eq_append_getElem h,List.flatMap_append,List.flatMap_cons,List.flatMap_nil,List.append_nil]
theorem prefB_len (p:Prefix):1≤(prefB p).length∧(prefB p).length≤5:=by
 simp[prefB,fourB]
 omega
theorem prefsB_len:∀l:List Prefix,(prefsB l).length≤5 * l.length
 | []=>by simp[prefsB]
 | p :: l=>by
  have:=prefsB_len l
  have h:=prefB_len p
  rw[prefsB,List.flatMap_cons,List.length_append,← prefsB,List.length_cons]
  omega
theorem prefsB_take (l:List Prefix) (i:Nat) (h:i≤l.length):(prefsB (l.take i)).length≤5 * l.length:=by
 have:=prefsB_len (l.take i)
 rw[List.length_take]at this
 omega
theorem nP_int (p:Prefix):(IntKind.i64.wrap ((IntKind.i64.wrap ((IntKind.i64.wrap (p.len.toNat:Int))+ 7)).tdiv 8))=(nP p:Int):=by
 have:=p.len.toNat_lt
 rw[wrap64 (n:=(p.len.toNat:Int)) (by omega) (by omega),wrap64 (n:=(p.len.toNat:Int)+ 7) (by omega) (by omega),Int.tdiv_eq_ediv_of_nonneg (by omega),wrap64 (by omega) (by omega),nP]
 omega
theorem nP_le {p:Prefix} (h:prefOk p=true):nP p≤4:=by
 simp only[prefOk,Bool.and_eq_true,decide_eq_true_eq]at h
 unfold nP
 omega
theorem ulaid_ok (fr:Bool) (l:List Prefix) (hb:l.length≤1000) (hr:∀p∈l,prefOk p=true):PCon prog 113 [encPs fr l] (encB true (prefsB l)):=by
 refine callV_of (fn:=Go.Proofs.Tryz.f113) (body:=_) tab_ok mixed rfl rfl (by decide) (by simp[Go.Proofs.Tryz.f113]) ?_
 conv=>whnf
 intro _
 conv=>whnf
 refine vcg_loop tab_ok mixed (fun i:{i:Nat // i≤l.length}=>⟨[(2,.osl 0 1 0 (prefsB (l.take i.1)).length),(5,encPs fr l),(6,cI l.length),(7,cI i.1)],[(0,some (.arr true false 5 1 (rowsB (prefsB (l.take i.1)))))],1⟩) (fun i=>l.length - i.1) ⟨0,by omega⟩ (Wk.i (by repeat' (first|exact LHa|exact .int_of (by simp)|exact .A|exact LeL.fr rfl|exact LHb|refine Or.inl ⟨by simp,_,rfl,?_⟩|exact Or.inr ⟨by simp,_,_,_,_,rfl⟩|refine⟨rfl,rfl,rfl,rfl,rfl,rfl,?_⟩|refine⟨?_,?_⟩)) (by omega)) (fun i=>?_)
 obtain⟨i,hi⟩:=i
 have hlen:=prefsB_take l i hi
 conv=>whnf
 split
 ·rename_i hc
  have hc:i < l.length:=by simpa using hc
  have hp:=hr l[i] (List.getElem_mem hc)
  have h4:=nP_le hp
  conv=>whnf
  refine ixK (idxP hc) ?_
  conv=>whnf
  refine⟨rfl,by simp,⟨rfl,rfl,rfl,rfl,by decide⟩,by simp[rowsB],⟨by simp[tab,tabOf,nth];omega,by simp;omega⟩,?_⟩
  conv=>whnf
  refine⟨_,[],fun h nx _=>pureV_pure (uhigh_ok _) ⟨.int_of rfl,.fr rfl,trivial⟩,by simp,?_⟩
  conv=>whnf
  refine⟨by decide,?_⟩
  conv=>whnf
  refine⟨rfl,⟨trivial,by rw[nP_int];omega,Nat.zero_le _,by rw[nP_int];simp[fourB];omega⟩,?_⟩
  conv=>whnf
  refine⟨⟨rfl,rfl,rfl,rfl,by decide⟩,by simp[rowsB],⟨by simp[tab,tabOf,nth,fourB];omega,by simp[fourB];omega⟩,?_⟩
  conv=>whnf
  refine⟨by kernel_rfl,?_⟩
  conv=>whnf
  exact⟨⟨i + 1,by omega⟩,(Wk.all (renOf [(0,4)]) [] (by repeat' (first|exact LHa|exact .int_of (wrap64_succ hc (by unfold maxLen;omega))|exact .osl_of rfl (by omega) (by rw[prefsB_succ hc,nP_int];simp[prefB,fourB];omega)|exact LeB.fr (by rw[prefsB_succ hc,nP_int];simp[prefB,rowsB,List.take_of_length_le]) id id|exact .A|exact LeL.fr rfl|exact LHb|refine Or.inl ⟨by simp,_,rfl,?_⟩|exact Or.inr ⟨by simp,_,_,_,_,rfl⟩|refine⟨rfl,rfl,rfl,rfl,rfl,rfl,?_⟩|refine⟨?_,?_⟩)) (show ∀b∈([0]:List Nat),∀b'∈([0]:List Nat),(renOf [(0,4)]) b=(renOf [(0,4)]) b'→b=b' by decide) (fun _ h=>by omega) (by omega) (by simp)),by simp only;omega⟩
 ·rename_i hc
  have hc:i=l.length:=by simp at hc;omega
  subst hc
  conv=>whnf
  exact Ends.pure [0] (LeV.freezeE (ys:=rowsB (prefsB l)) (by simp) rfl (by simp[rowsB]) (by simp[rowsB,List.take_of_length_le]) (rowsB_free _)) (one_none rfl)
end
end Go.Proofs.YteogfjpaljbkoaaGreat
