/- Joined: A2, A3, B2, B3, B4, B6, B7, B8, B9, B10, B11, B15, B16, B17, B18, M1, M2, I1, I2, I3, I4, I5, I6, I8, I10, I11, I14, I15, I16, I18, I19, I21, I22, N1, N2, I29, I30, I24, I25, RP0, I35, I36, VZE, O1, O2, O3. -/
import Derived.Test.YteogfjpaljbkoaaGreatK4
import Derived.Test.YteogfjpaljbkoaaGreatProg
import Derived.Shelf.SlSortCmp.NoneTotal
import Derived.Lib.Small
import Derived.Lib.Walk
import Derived.StillTailTactics
import Derived.Test.YteogfjpaljbkoaaGreatK3
import Derived.Lib.Join
import Derived.Lib.ItoaNum
import Derived.Test.YteogfjpaljbkoaaGreatK2
set_option linter.unusedVariables false
set_option linter.unusedSimpArgs false
set_option maxRecDepth 100000
set_option maxHeartbeats 16000000
namespace Go.Proofs.YteogfjpaljbkoaaGreat
open Go.RowKit
section
open Go.Proofs.Tryz (prog)
attribute [local irreducible] CallV RoundV
theorem uhigh_ok (x:UInt32):PCon prog 154 [cW x,.int .i64 4] (encB true (fourB x)):=by
 refine callV_of (fn:=Go.Proofs.Tryz.f154) (body:=_) tab_ok mixed rfl rfl (by decide) (by simp[Go.Proofs.Tryz.f154]) ?_
 conv=>whnf
 refine⟨⟨by omega,by omega,by simp[tab,tabOf,nth],by omega⟩,?_⟩
 conv=>whnf
 refine callV_of (fn:=Go.Proofs.Tryz.f158) (body:=_) tab_ok mixed rfl rfl (by decide) (by simp[Go.Proofs.Tryz.f158]) ?_
 conv=>whnf
 refine⟨_,_,_,Ends.here,?_⟩
 conv=>whnf
 refine callV_loop [(2,.ptr 0 0),(5,.ptr 2 0)] ⟨rfl,rfl,trivial⟩ fun asg' body' hasg hbody=>?_
 refine callV_of (fn:=Go.Proofs.Tryz.f201) (body:=_) tab_ok mixed rfl rfl (by decide) (by simp[Go.Proofs.Tryz.f201]) ?_
 conv=>whnf
 intro _
 conv=>whnf
 refine vcg_loop tab_ok mixed (fun k:{k:Nat // k≤4}=>⟨[(0,.yld 4),(1,.ptr 3 0),(3,.int .i64 (3 - k.1))],[(4,some (.loop 23 [(2,.ptr 0 0),(5,.ptr 2 0)] [11,12] asg' body' .ready none)),(0,some (.var true 22 [.int .u32 (shr8 x k.1)])),(1,some (.arr true true 5 1 (highRows x k.1))),(2,some (.var true 127 [.osl 1 1 0 4])),(3,some (.var true 127 [.osl 1 1 0 4]))],5⟩) (fun k=>4 - k.1) ⟨0,by omega⟩ ?_ (fun k=>?_)
 ·refine Wk.of id [] ⟨?_,?_,?_,trivial⟩ (LeH.of ⟨⟨by omega,.inl ⟨by simp,_,rfl,?_⟩⟩,⟨by omega,.inl ⟨by simp,_,rfl,?_⟩⟩,⟨by omega,.inl ⟨by simp,_,rfl,?_⟩⟩,⟨by omega,.inl ⟨by simp,_,rfl,?_⟩⟩,⟨by omega,.inl ⟨by simp,_,rfl,?_⟩⟩,trivial⟩ (fun _ _ _ _ h=>h) (fun _ _=>rfl) (by omega) (by simp))
  ·exact .yld rfl (by omega)
  ·exact .ptr rfl (by omega)
  ·exact .int_of rfl
  ·exact⟨rfl,rfl,rfl,rfl,rfl,rfl,.ptr rfl (by omega),.ptr rfl (by omega),trivial⟩
  ·exact⟨id,rfl,.int_of rfl,trivial⟩
  ·exact LeB.free (blk:=.arr true true 5 1 (highRows x 0)) (highRows_free x 0)
  ·exact⟨id,rfl,.osl_of rfl (by omega) rfl,trivial⟩
  ·exact⟨id,rfl,.osl_of rfl (by omega) rfl,trivial⟩
 obtain⟨k,hk⟩:=k
 rcases k with _|_|_|_|_|k
 case succ.succ.succ.succ.succ=>omega
 case succ.succ.succ.succ.zero=>
  conv=>whnf
  refine⟨_,_,_,Ends.here,?_⟩
  conv=>whnf
  refine Ends.pure [1] ?_ ?_
  ·refine LeV.freeze_of (by simp) rfl (by simp[highRows]) (highRows_free x 4) ?_
   simp[highRows,fourB]
  ·intro z hz
   obtain rfl:=List.mem_singleton.1 hz
   exact ne_none_of rfl
 ·conv=>whnf
  refine⟨rfl,⟨by simp,by simp⟩,?_⟩
  conv=>whnf
  refine⟨rfl,_,rfl,?_⟩
  conv=>whnf
  subst hasg hbody
  refine roundV_of tab_ok mixed rfl (by simp) (show 4 < 5 by omega) ?_
  conv=>whnf
  refine⟨rfl,?_⟩
  conv=>whnf
  refine⟨rfl,⟨by simp,by simp⟩,?_⟩
  conv=>whnf
  refine⟨rfl,_,rfl,?_⟩
  conv=>whnf
  refine⟨by decide,?_⟩
  conv=>whnf
  refine⟨rfl,?_⟩
  conv=>whnf
  refine⟨⟨1,by omega⟩,Wk.of id [] ⟨.yld rfl (by omega),.ptr rfl (by omega),.int_of ?_,trivial⟩ (LeH.of ⟨⟨by omega,.inl ⟨by simp,_,rfl,rfl,rfl,rfl,rfl,rfl,rfl,.ptr rfl (by omega),.ptr rfl (by omega),trivial⟩⟩,⟨by omega,.inl ⟨by simp,_,rfl,id,rfl,.int_of ?_,trivial⟩⟩,⟨by omega,.inl ⟨by simp,_,rfl,LeB.eq_of ?_ (highRows_free x 1)⟩⟩,⟨by omega,.inl ⟨by simp,_,rfl,id,rfl,.osl_of rfl (by omega) rfl,trivial⟩⟩,⟨by omega,.inl ⟨by simp,_,rfl,id,rfl,.osl_of rfl (by omega) rfl,trivial⟩⟩,trivial⟩ (fun _ _ _ _ h=>h) (fun _ _=>rfl) (by omega) (by simp)),?_⟩
  ·simp[wrap64']
  ·refine sh_step ?_
   have:=x.toNat_lt
   simp[UInt32.toNat_shiftRight,Nat.shiftRight_eq_div_pow,Nat.div_div_eq_div_mul]<;>omega
  ·simp[highRows,shr8,cB,wrap8]
  ·simp
 ·conv=>whnf
  refine⟨rfl,⟨by simp,by simp⟩,?_⟩
  conv=>whnf
  refine⟨rfl,_,rfl,?_⟩
  conv=>whnf
  subst hasg hbody
  refine roundV_of tab_ok mixed rfl (by simp) (show 4 < 5 by omega) ?_
  conv=>whnf
  refine⟨rfl,?_⟩
  conv=>whnf
  refine⟨rfl,⟨by simp,by simp⟩,?_⟩
  conv=>whnf
  refine⟨rfl,_,rfl,?_⟩
  conv=>whnf
  refine⟨by decide,?_⟩
  conv=>whnf
  refine⟨rfl,?_⟩
  conv=>whnf
  refine⟨⟨2,by omega⟩,Wk.of id [] ⟨.yld rfl (by omega),.ptr rfl (by omega),.int_of ?_,trivial⟩ (LeH.of ⟨⟨by omega,.inl ⟨by simp,_,rfl,rfl,rfl,rfl,rfl,rfl,rfl,.ptr rfl (by omega),.ptr rfl (by omega),trivial⟩⟩,⟨by omega,.inl ⟨by simp,_,rfl,id,rfl,.int_of ?_,trivial⟩⟩,⟨by omega,.inl ⟨by simp,_,rfl,LeB.eq_of ?_ (highRows_free x 2)⟩⟩,⟨by omega,.inl ⟨by simp,_,rfl,id,rfl,.osl_of rfl (by omega) rfl,trivial⟩⟩,⟨by omega,.inl ⟨by simp,_,rfl,id,rfl,.osl_of rfl (by omega) rfl,trivial⟩⟩,trivial⟩ (fun _ _ _ _ h=>h) (fun _ _=>rfl) (by omega) (by simp)),?_⟩
  ·simp[wrap64']
  ·refine sh_step ?_
   have:=x.toNat_lt
   simp[UInt32.toNat_shiftRight,Nat.shiftRight_eq_div_pow,Nat.div_div_eq_div_mul]<;>omega
  ·simp[highRows,shr8,cB,wrap8]
  ·simp
 ·conv=>whnf
  refine⟨rfl,⟨by simp,by simp⟩,?_⟩
  conv=>whnf
  refine⟨rfl,_,rfl,?_⟩
  conv=>whnf
  subst hasg hbody
  refine roundV_of tab_ok mixed rfl (by simp) (show 4 < 5 by omega) ?_
  conv=>whnf
  refine⟨rfl,?_⟩
  conv=>whnf
  refine⟨rfl,⟨by simp,by simp⟩,?_⟩
  conv=>whnf
  refine⟨rfl,_,rfl,?_⟩
  conv=>whnf
  refine⟨by decide,?_⟩
  conv=>whnf
  refine⟨rfl,?_⟩
  conv=>whnf
  refine⟨⟨3,by omega⟩,Wk.of id [] ⟨.yld rfl (by omega),.ptr rfl (by omega),.int_of ?_,trivial⟩ (LeH.of ⟨⟨by omega,.inl ⟨by simp,_,rfl,rfl,rfl,rfl,rfl,rfl,rfl,.ptr rfl (by omega),.ptr rfl (by omega),trivial⟩⟩,⟨by omega,.inl ⟨by simp,_,rfl,id,rfl,.int_of ?_,trivial⟩⟩,⟨by omega,.inl ⟨by simp,_,rfl,LeB.eq_of ?_ (highRows_free x 3)⟩⟩,⟨by omega,.inl ⟨by simp,_,rfl,id,rfl,.osl_of rfl (by omega) rfl,trivial⟩⟩,⟨by omega,.inl ⟨by simp,_,rfl,id,rfl,.osl_of rfl (by omega) rfl,trivial⟩⟩,trivial⟩ (fun _ _ _ _ h=>h) (fun _ _=>rfl) (by omega) (by simp)),?_⟩
  ·simp[wrap64']
  ·refine sh_step ?_
   have:=x.toNat_lt
   simp[UInt32.toNat_shiftRight,Nat.shiftRight_eq_div_pow,Nat.div_div_eq_div_mul]<;>omega
  ·simp[highRows,shr8,cB,wrap8]
  ·simp
 ·conv=>whnf
  refine⟨rfl,⟨by simp,by simp⟩,?_⟩
  conv=>whnf
  refine⟨rfl,_,rfl,?_⟩
  conv=>whnf
  subst hasg hbody
  refine roundV_of tab_ok mixed rfl (by simp) (show 4 < 5 by omega) ?_
  conv=>whnf
  refine⟨rfl,?_⟩
  conv=>whnf
  refine⟨rfl,⟨by simp,by simp⟩,?_⟩
  conv=>whnf
  refine⟨rfl,_,rfl,?_⟩
  conv=>whnf
  refine⟨by decide,?_⟩
  conv=>whnf
  refine⟨rfl,?_⟩
  conv=>whnf
  refine⟨⟨4,by omega⟩,Wk.of id [] ⟨.yld rfl (by omega),.ptr rfl (by omega),.int_of ?_,trivial⟩ (LeH.of ⟨⟨by omega,.inl ⟨by simp,_,rfl,rfl,rfl,rfl,rfl,rfl,rfl,.ptr rfl (by omega),.ptr rfl (by omega),trivial⟩⟩,⟨by omega,.inl ⟨by simp,_,rfl,id,rfl,.int_of ?_,trivial⟩⟩,⟨by omega,.inl ⟨by simp,_,rfl,LeB.eq_of ?_ (highRows_free x 4)⟩⟩,⟨by omega,.inl ⟨by simp,_,rfl,id,rfl,.osl_of rfl (by omega) rfl,trivial⟩⟩,⟨by omega,.inl ⟨by simp,_,rfl,id,rfl,.osl_of rfl (by omega) rfl,trivial⟩⟩,trivial⟩ (fun _ _ _ _ h=>h) (fun _ _=>rfl) (by omega) (by simp)),?_⟩
  ·simp[wrap64']
  ·refine sh_step ?_
   have:=x.toNat_lt
   simp[UInt32.toNat_shiftRight,Nat.shiftRight_eq_div_pow,Nat.div_div_eq_div_mul]<;>omega
  ·simp[highRows,shr8,cB,wrap8]
  ·simp
theorem uhighI_ok (n:Nat) (hn:n < 65536):PCon prog 116 [cI n,.int .i64 2] (encB true (twoB n)):=by
 refine callV_of (fn:=Go.Proofs.Tryz.f116) (body:=_) tab_ok mixed rfl rfl (by decide) (by simp[Go.Proofs.Tryz.f116]) ?_
 conv=>whnf
 refine⟨⟨by omega,by omega,by simp[tab,tabOf,nth],by omega⟩,?_⟩
 conv=>whnf
 refine callV_of (fn:=Go.Proofs.Tryz.f158) (body:=_) tab_ok mixed rfl rfl (by decide) (by simp[Go.Proofs.Tryz.f158]) ?_
 conv=>whnf
 refine⟨_,_,_,Ends.here,?_⟩
 conv=>whnf
 refine callV_loop [(2,.ptr 0 0),(5,.ptr 2 0)] ⟨rfl,rfl,trivial⟩ fun asg' body' hasg hbody=>?_
 refine callV_of (fn:=Go.Proofs.Tryz.f201) (body:=_) tab_ok mixed rfl rfl (by decide) (by simp[Go.Proofs.Tryz.f201]) ?_
 conv=>whnf
 intro _
 conv=>whnf
 refine vcg_loop tab_ok mixed (fun k:{k:Nat // k≤2}=>⟨[(0,.yld 4),(1,.ptr 3 0),(3,.int .i64 (1 - k.1))],[(4,some (.loop 23 [(2,.ptr 0 0),(5,.ptr 2 0)] [11,12] asg' body' .ready none)),(0,some (.var true 3 [.int .i64 (shrI n k.1)])),(1,some (.arr true true 5 1 (twoRows n k.1))),(2,some (.var true 127 [.osl 1 1 0 2])),(3,some (.var true 127 [.osl 1 1 0 2]))],5⟩) (fun k=>2 - k.1) ⟨0,by omega⟩ ?_ (fun k=>?_)
 ·refine Wk.of id [] ⟨?_,?_,?_,trivial⟩ (LeH.of ⟨⟨by omega,.inl ⟨by simp,_,rfl,?_⟩⟩,⟨by omega,.inl ⟨by simp,_,rfl,?_⟩⟩,⟨by omega,.inl ⟨by simp,_,rfl,?_⟩⟩,⟨by omega,.inl ⟨by simp,_,rfl,?_⟩⟩,⟨by omega,.inl ⟨by simp,_,rfl,?_⟩⟩,trivial⟩ (fun _ _ _ _ h=>h) (fun _ _=>rfl) (by omega) (by simp))
  ·exact .yld rfl (by omega)
  ·exact .ptr rfl (by omega)
  ·exact .int_of rfl
  ·exact⟨rfl,rfl,rfl,rfl,rfl,rfl,.ptr rfl (by omega),.ptr rfl (by omega),trivial⟩
  ·exact⟨id,rfl,.int_of rfl,trivial⟩
  ·exact LeB.free (blk:=.arr true true 5 1 (twoRows n 0)) (twoRows_free n 0)
  ·exact⟨id,rfl,.osl_of rfl (by omega) rfl,trivial⟩
  ·exact⟨id,rfl,.osl_of rfl (by omega) rfl,trivial⟩
 obtain⟨k,hk⟩:=k
 rcases k with _|_|_|k
 case succ.succ.succ=>omega
 case succ.succ.zero=>
  conv=>whnf
  refine⟨_,_,_,Ends.here,?_⟩
  conv=>whnf
  refine Ends.pure [1] ?_ ?_
  ·refine LeV.freeze_of (by simp) rfl (by simp[twoRows]) (twoRows_free n 2) ?_
   simp[twoRows,twoB]
  ·intro z hz
   obtain rfl:=List.mem_singleton.1 hz
   exact ne_none_of rfl
 ·conv=>whnf
  refine⟨rfl,⟨by simp,by simp⟩,?_⟩
  conv=>whnf
  refine⟨rfl,_,rfl,?_⟩
  conv=>whnf
  subst hasg hbody
  refine roundV_of tab_ok mixed rfl (by simp) (show 4 < 5 by omega) ?_
  conv=>whnf
  refine⟨rfl,?_⟩
  conv=>whnf
  refine⟨rfl,⟨by simp,by simp⟩,?_⟩
  conv=>whnf
  refine⟨rfl,_,rfl,?_⟩
  conv=>whnf
  refine⟨by decide,?_⟩
  conv=>whnf
  refine⟨rfl,?_⟩
  conv=>whnf
  refine⟨⟨1,by omega⟩,Wk.of id [] ⟨.yld rfl (by omega),.ptr rfl (by omega),.int_of ?_,trivial⟩ (LeH.of ⟨⟨by omega,.inl ⟨by simp,_,rfl,rfl,rfl,rfl,rfl,rfl,rfl,.ptr rfl (by omega),.ptr rfl (by omega),trivial⟩⟩,⟨by omega,.inl ⟨by simp,_,rfl,id,rfl,.int_of ?_,trivial⟩⟩,⟨by omega,.inl ⟨by simp,_,rfl,LeB.eq_of ?_ (twoRows_free n 1)⟩⟩,⟨by omega,.inl ⟨by simp,_,rfl,id,rfl,.osl_of rfl (by omega) rfl,trivial⟩⟩,⟨by omega,.inl ⟨by simp,_,rfl,id,rfl,.osl_of rfl (by omega) rfl,trivial⟩⟩,trivial⟩ (fun _ _ _ _ h=>h) (fun _ _=>rfl) (by omega) (by simp)),?_⟩
  ·simp[wrap64']
  ·exact shI_step _ (by simp[Nat.div_div_eq_div_mul]) (by omega)
  ·simp[twoRows,shrI,cB,wrap8]
  ·simp
 ·conv=>whnf
  refine⟨rfl,⟨by simp,by simp⟩,?_⟩
  conv=>whnf
  refine⟨rfl,_,rfl,?_⟩
  conv=>whnf
  subst hasg hbody
  refine roundV_of tab_ok mixed rfl (by simp) (show 4 < 5 by omega) ?_
  conv=>whnf
  refine⟨rfl,?_⟩
  conv=>whnf
  refine⟨rfl,⟨by simp,by simp⟩,?_⟩
  conv=>whnf
  refine⟨rfl,_,rfl,?_⟩
  conv=>whnf
  refine⟨by decide,?_⟩
  conv=>whnf
  refine⟨rfl,?_⟩
  conv=>whnf
  refine⟨⟨2,by omega⟩,Wk.of id [] ⟨.yld rfl (by omega),.ptr rfl (by omega),.int_of ?_,trivial⟩ (LeH.of ⟨⟨by omega,.inl ⟨by simp,_,rfl,rfl,rfl,rfl,rfl,rfl,rfl,.ptr rfl (by omega),.ptr rfl (by omega),trivial⟩⟩,⟨by omega,.inl ⟨by simp,_,rfl,id,rfl,.int_of ?_,trivial⟩⟩,⟨by omega,.inl ⟨by simp,_,rfl,LeB.eq_of ?_ (twoRows_free n 2)⟩⟩,⟨by omega,.inl ⟨by simp,_,rfl,id,rfl,.osl_of rfl (by omega) rfl,trivial⟩⟩,⟨by omega,.inl ⟨by simp,_,rfl,id,rfl,.osl_of rfl (by omega) rfl,trivial⟩⟩,trivial⟩ (fun _ _ _ _ h=>h) (fun _ _=>rfl) (by omega) (by simp)),?_⟩
  ·simp[wrap64']
  ·exact shI_step _ (by simp[Nat.div_div_eq_div_mul]) (by omega)
  ·simp[twoRows,shrI,cB,wrap8]
  ·simp
end
section
open Go.Proofs.Tryz (prog)
attribute [local irreducible] CallV RoundV aggK
abbrev rowsP (l:List Prefix):List (List V):=l.map cellsP
def encPs (fr:Bool) (l:List Prefix):V:=.sl fr 2 (rowsP l)
theorem cellsP_all (p:Prefix):∀v∈cellsP p,Free v∧Cold v∧Fresh v:=by
 intro v hv
 simp only[cellsP,List.mem_cons,List.not_mem_nil,or_false]at hv
 rcases hv with rfl|rfl<;>exact⟨.int,.int,.int⟩
theorem rowsP_all (l:List Prefix):∀x∈rowsP l,∀v∈x,Free v∧Cold v∧Fresh v:=by
 intro x hx v hv
 obtain⟨r,_,rfl⟩:=List.mem_map.1 hx
 exact cellsP_all r v hv
theorem rowsP_free (l:List Prefix):∀x∈rowsP l,∀v∈x,Free v:=fun x hx v hv=>(rowsP_all l x hx v hv).1
theorem encPs_free (fr:Bool) (l:List Prefix):Free (encPs fr l):=.sl (rowsP_free l)
theorem encPs_cold (l:List Prefix):Cold (encPs false l):=.sl fun x hx v hv=>(rowsP_all l x hx v hv).2.1
theorem idxP {l:List Prefix} {i:Nat} (h:i < l.length):(rowsP l)[(i:Int).toNat]? = some (cellsP l[i]):=by simp[rowsP,h]
theorem wfW (x:UInt32):(Lit.int .u32 (x.toNat:Int)).wf=true:=by
 have:=x.toNat_lt
 simp only[Lit.wf,Bool.and_eq_true,decide_eq_true_eq]
 exact⟨by simp[IntKind.min,IntKind.signed];try omega,by simp[IntKind.max,IntKind.signed,IntKind.bits];omega⟩
theorem wfB (x:UInt8):(Lit.int .u8 (x.toNat:Int)).wf=true:=by
 have:=x.toNat_lt
 simp only[Lit.wf,Bool.and_eq_true,decide_eq_true_eq]
 exact⟨by simp[IntKind.min,IntKind.signed];try omega,by simp[IntKind.max,IntKind.signed,IntKind.bits];omega⟩
def litsP (p:Prefix):List Lit:=[.int .u32 (p.addr.toNat:Int),.int .u8 (p.len.toNat:Int)]
theorem litsP_inj {p q:Prefix}:litsP p=litsP q↔p=q:=by
 constructor
 ·intro h
  obtain⟨a,b⟩:=p
  obtain⟨c,d⟩:=q
  simp only[litsP,List.cons.injEq,Lit.int.injEq,true_and,and_true]at h
  rw[UInt32.toNat_inj.1 (by omega:a.toNat=c.toNat),UInt8.toNat_inj.1 (by omega:b.toNat=d.toNat)]
 ·exact fun h=>by rw[h]
theorem litP (p:Prefix) {K:List Lit→Prop} (h:K (litsP p)):litK tab 60 31 (cellsP p) K:=And.intro (wfW _) (And.intro (wfB _) h)
theorem aggK_neq {T:Tab} {t:Nat} {fs:List (Nat × Nat)} (hk:(T t).key=true) (hs:(T t).k=.struct fs) {cs ds:List V} {K:V→Prop}
  (h:litK T 60 t cs fun la=>litK T 60 t ds fun lb=>∃r:Bool,(r=true↔la=lb)∧K (.bool (!r))):aggK T .neq t cs ds K:=by
 rw[aggK,hk,hs]
 exact h
theorem aggK_eql {T:Tab} {t:Nat} {fs:List (Nat × Nat)} (hk:(T t).key=true) (hs:(T t).k=.struct fs) {cs ds:List V} {K:V→Prop}
  (h:litK T 60 t cs fun la=>litK T 60 t ds fun lb=>∃r:Bool,(r=true↔la=lb)∧K (.bool r)):aggK T .eql t cs ds K:=by
 rw[aggK,hk,hs]
 exact h
theorem neqP (r s:Prefix) {K:V→Prop} (h:K (.bool (!decide (r=s)))):aggK tab .neq 31 (cellsP r) (cellsP s) K:=by
 refine aggK_neq rfl rfl ?_
 refine litP r ?_
 refine litP s ?_
 exact⟨decide (r=s),by rw[litsP_inj];simp,h⟩
theorem eqlP (r s:Prefix) {K:V→Prop} (h:K (.bool (decide (r=s)))):aggK tab .eql 31 (cellsP r) (cellsP s) K:=by
 refine aggK_eql rfl rfl ?_
 refine litP r ?_
 refine litP s ?_
 exact⟨decide (r=s),by rw[litsP_inj];simp,h⟩
theorem keyP (p:Prefix):KeyV tab 31 (encP p):=⟨rfl,rfl,rfl,litsP p,litP p rfl⟩
theorem cmpP_def (p q:Prefix):cmpP p q=if p.addr.toNat < q.addr.toNat then -1 else if q.addr.toNat < p.addr.toNat then 1 else if p.len.toNat < q.len.toNat then -1 else if q.len.toNat < p.len.toNat then 1 else 0:=by
 unfold cmpP orI cmpI
 simp only[Int.ofNat_lt]
 by_cases h1:p.addr.toNat < q.addr.toNat
 ·simp[h1]
 ·by_cases h2:q.addr.toNat < p.addr.toNat
  ·simp[h1,h2]
  ·by_cases h3:p.len.toNat < q.len.toNat
   ·simp[h1,h2,h3]
   ·by_cases h4:q.len.toNat < p.len.toNat<;>simp[h1,h2,h3,h4]
theorem pfx_eq {p q:Prefix} (h1:p.addr.toNat=q.addr.toNat) (h2:p.len.toNat=q.len.toNat):p=q:=by
 obtain⟨a,b⟩:=p
 obtain⟨c,d⟩:=q
 obtain rfl:a=c:=UInt32.toNat_inj.1 h1
 obtain rfl:b=d:=UInt8.toNat_inj.1 h2
 rfl
theorem cmpP_zero {p q:Prefix}:cmpP p q=0↔p=q:=by
 rw[cmpP_def]
 constructor
 ·intro h
  repeat' split at h
  all_goals first|(exact absurd h (by decide))|skip
  exact pfx_eq (by omega) (by omega)
 ·rintro rfl;simp
theorem refCompare_ok (p q:Prefix):PCon prog 168 [encP p,encP q] (.int .i64 (cmpP p q)):=by
 refine callV_of (fn:=Go.Proofs.Tryz.f168) (body:=_) tab_ok mixed rfl rfl (by decide) (by simp[Go.Proofs.Tryz.f168]) ?_
 have fin:∀{s:St} {r:Int},cmpP p q=r→∃v1 h' nx',Ends 0 s (.int .i64 r) v1 h' nx'∧(v1=.int .i64 (cmpP p q)∧h'=[]∧nx'=0):=fun h=>Ends.pure [] (.int_of h.symm) (by simp)
 conv=>whnf
 cases h1:decide ((p.addr.toNat:Int) < (q.addr.toNat:Int))with
 | true=>
  conv=>whnf
  refine fin ?_
  simp only[decide_eq_true_eq]at h1
  rw[cmpP_def,if_pos (by omega)]
 | false=>
 simp only[decide_eq_false_iff_not]at h1
 conv=>whnf
 cases h2:((p.addr.toNat:Int) == (q.addr.toNat:Int))with
 | false=>
  conv=>whnf
  refine eqlP p q ?_
  have hne:decide (p=q)=false:=by simp;rintro rfl;simp at h2
  simp at h2
  rw[hne]
  conv=>whnf
  refine fin ?_
  rw[cmpP_def,if_neg (by omega),if_pos (by omega)]
 | true=>
 simp at h2
 conv=>whnf
 split
 ·rename_i h3
  conv=>whnf
  refine fin ?_
  simp only[decide_eq_true_eq]at h3
  rw[cmpP_def,if_neg (by omega),if_neg (by omega),if_pos (by omega)]
 ·rename_i h3
  simp only[decide_eq_false_iff_not]at h3
  conv=>whnf
  refine eqlP p q ?_
  conv=>whnf
  split
  ·rename_i h4
   conv=>whnf
   exact fin (cmpP_zero.2 (by simpa using h4))
  ·rename_i h4
   conv=>whnf
   refine fin ?_
   have h4:p ≠ q:=by simpa using h4
   rw[cmpP_def,if_neg (by omega),if_neg (by omega),if_neg (by omega),if_pos]
   rcases Nat.lt_or_ge q.len.toNat p.len.toNat with h|h
   ·exact h
   ·exact absurd (pfx_eq (by omega) (by omega)) h4
theorem equalP_ok (fr fr':Bool) (a b:List Prefix):PCon prog 108 [encPs fr a,encPs fr' b] (.bool (decide (a=b))):=by
 refine callV_of (fn:=Go.Proofs.Tryz.f108) (body:=_) tab_ok mixed rfl rfl (by decide) (by simp[Go.Proofs.Tryz.f108]) ?_
 conv=>whnf
 intro ha
 have ha:a.length≤maxLen:=by simpa[gd]using ha
 conv=>whnf
 intro hb
 conv=>whnf
 split
 ·rename_i hne
  conv=>whnf
  refine Ends.pure [] (.bool_of ?_) (by simp)
  symm
  rw[decide_eq_false_iff_not]
  rintro rfl
  simp at hne
 ·rename_i hne
  have hlen:a.length=b.length:=by simp at hne;omega
  conv=>whnf
  intro _
  conv=>whnf
  refine vcg_loop tab_ok mixed (fun i:{i:Nat // i≤a.length∧a.take i=b.take i}=>⟨[(0,encPs fr a),(1,encPs fr' b),(12,cI a.length),(13,.int .i64 i.1)],[],0⟩) (fun i=>a.length - i.1) ⟨0,by omega,rfl⟩ (Wk.of id [] ⟨.free (encPs_free _ _),.free (encPs_free _ _),.int_of (by simp),.int_of rfl,trivial⟩ (LeH.nil (Nat.le_refl _) (fun b h=>by omega) (by simp))) (fun i=>?_)
  obtain⟨i,hi,hr⟩:=i
  conv=>whnf
  split
  ·rename_i hc
   have hc:i < a.length:=by simpa using hc
   have hc':i < b.length:=by omega
   conv=>whnf
   refine ixK (idxP hc) ?_
   conv=>whnf
   refine ixK (idxP hc') ?_
   conv=>whnf
   refine neqP a[i] b[i] ?_
   conv=>whnf
   refine⟨by kernel_rfl,?_⟩
   conv=>whnf
   split
   ·rename_i h1
    conv=>whnf
    refine Ends.pure [] (.bool_of ?_) (by simp)
    symm
    rw[decide_eq_false_iff_not]
    rintro rfl
    simp at h1
   ·rename_i h1
    have h1:a[i]=b[i]:=by simpa using h1
    conv=>whnf
    exact⟨⟨i + 1,by omega,take_step hc hc' hr h1⟩,Wk.of id [] ⟨.free (encPs_free _ _),.free (encPs_free _ _),.int_of rfl,.int_of (wrap64_succ hc ha),trivial⟩ (LeH.nil (Nat.le_refl _) (fun b h=>by omega) (by simp)),by simp only;omega⟩
  ·rename_i hc
   have hc:i=a.length:=by simp at hc;omega
   subst hc
   rw[List.take_length,hlen,List.take_length]at hr
   conv=>whnf
   refine Ends.pure [] (.bool_of ?_) (by simp)
   simp[hr]
end
section
open Go.Shelf Go.Lib Go.Sort
open Go.Proofs.Tryz (prog)
theorem k76 (x:Int) (W:World):Calls prog 175 #[.int .u32 x] W fun e w'=>e=.returned (.bool false)∧w'=W:=by
 go_enter Go.Proofs.Tryz.func175,Go.Proofs.Tryz.ntmps175
 go_wp2
 go_ret
 exact⟨by simp,rfl⟩
theorem k41 (x y:Int) (W:World):Calls prog 146 #[.int .u32 x,.int .u32 y] W fun e w'=>e=.returned (.int .i64 (cmpI x y))∧w'=W:=by
 go_enter Go.Proofs.Tryz.func146,Go.Proofs.Tryz.ntmps146
 go_wp2_with (go_at_call 175;refine(k76 _ _).mono ?_;rintro e w' ⟨rfl,rfl⟩)
 all_goals (go_ret;refine⟨?_,rfl⟩;unfold cmpI;(repeat' split)<;>first|rfl|(exfalso;omega))
theorem k77 (x:Int) (W:World):Calls prog 176 #[.int .u8 x] W fun e w'=>e=.returned (.bool false)∧w'=W:=by
 go_enter Go.Proofs.Tryz.func176,Go.Proofs.Tryz.ntmps176
 go_wp2
 go_ret
 exact⟨by simp,rfl⟩
theorem k42 (x y:Int) (W:World):Calls prog 147 #[.int .u8 x,.int .u8 y] W fun e w'=>e=.returned (.int .i64 (cmpI x y))∧w'=W:=by
 go_enter Go.Proofs.Tryz.func147,Go.Proofs.Tryz.ntmps147
 go_wp2_with (go_at_call 176;refine(k77 _ _).mono ?_;rintro e w' ⟨rfl,rfl⟩)
 all_goals (go_ret;refine⟨?_,rfl⟩;unfold cmpI;(repeat' split)<;>first|rfl|(exfalso;omega))
def sel2 (a b:Int):Nat→Int
 | 0=>a
 | _=>b
def or2 (a b:Int):Int:=if a ≠ 0 then a else b
theorem k40 (blk c:Nat) (a b:Int) (W:World) (h0:W.cell? ⟨blk,0,none⟩=some (.int .i64 a)) (h1:W.cell? ⟨blk,1,none⟩=some (.int .i64 b)) :
  Calls prog 145 #[.slice (some ⟨blk,0,none⟩) 2 c] W fun e w'=>e=.returned (.int .i64 (or2 a b))∧w'=W:=by
 go_enter Go.Proofs.Tryz.func145,Go.Proofs.Tryz.ntmps145
 go_wp2
 go_loop [5,8] (fun _ i=>∃k:Nat,k≤2∧i=.int .i64 k∧(0 < k→a=0)∧(1 < k→b=0)) (fun _ i=>match i with|.int _ m=>2 - m.toNat|_=>0)
 case atStart=>exact⟨0,Nat.zero_le _,rfl,(fun h=>absurd h (Nat.lt_irrefl _)),(fun h=>absurd h (Nat.not_lt_zero _))⟩
 case round=>
  obtain⟨k,hk,rfl,q0,q1⟩:=hrel
  have hcell:(k:Int) < 2→W.cell? ⟨blk,k,none⟩=some (.int .i64 (sel2 a b k)):=fun h=>by
   rcases k with _|_|k
   ·exact h0
   ·exact h1
   ·omega
  go_wp2
  ·have hlt:(k:Int) < 2:=by assumption
   have heq:(sel2 a b k != 0)=true:=by assumption
   go_ret
   refine⟨?_,rfl⟩
   rcases k with _|_|k
   ·have:a ≠ 0:=by simpa[sel2]using heq
    show _=Ending.returned (.int .i64 (or2 a b))
    rw[or2,if_pos this]
    rfl
   ·rw[or2,if_neg (by simp[q0 (by omega)])]
    rfl
   ·omega
  ·have hlt:(k:Int) < 2:=by assumption
   have hneq:(sel2 a b k != 0)=false:=by assumption
   have hs:sel2 a b k=0:=by simpa using hneq
   refine⟨⟨k + 1,by omega,rfl,fun hj=>?_,fun hj=>?_⟩,by show 2 - ((k:Int)+ 1).toNat < 2 - (k:Int).toNat;omega⟩
   ·rcases k with _|_|k
    ·exact hs
    ·exact q0 (by omega)
    ·omega
   ·rcases k with _|_|k
    ·omega
    ·exact hs
    ·omega
  ·have hge:2≤(k:Int):=by assumption
   have e2:k=2:=by omega
   subst e2
   go_ret
   refine⟨?_,rfl⟩
   rw[or2,if_neg (by simp[q0 (by omega)]),q1 (by omega)]
   rfl
theorem k40v (W:World) (r s:Int) (ty:TypeId):Calls prog 145 #[.slice (some ⟨W.heap.size,0,none⟩) 2 2] (W.alloc (.cells #[.int .i64 r,.int .i64 s] ty)).drew fun e w'=>e=.returned (.int .i64 (or2 r s))∧w'=(W.alloc (.cells #[.int .i64 r,.int .i64 s] ty)).drew:=by
 have h:(W.alloc (.cells #[.int .i64 r,.int .i64 s] ty)).heap[W.heap.size]? = some (.cells #[.int .i64 r,.int .i64 s] ty (0,0)):=heap_alloc_new W _
 refine k40 _ _ r s _ ?_ ?_
 ·show World.cell? (W.alloc (.cells #[.int .i64 r,.int .i64 s] ty)) _=_
  simp only[World.cell?]
  erw [h]
  rfl
 ·show World.cell? (W.alloc (.cells #[.int .i64 r,.int .i64 s] ty)) _=_
  simp only[World.cell?]
  erw [h]
  rfl
def cmp2 (a b c d:Int):Int:=or2 (cmpI a c) (cmpI b d)
theorem k16 (a b c d:Int) (W:World):Calls prog 97 #[.agg #[.int .u32 a,.int .u8 b],.agg #[.int .u32 c,.int .u8 d]] W fun e w'=>e=.returned (.int .i64 (cmp2 a b c d))∧∃q os',w'=grow (W.drewN q) os':=by
 have g41:=k41 a c
 have g42:=k42 b d
 unfold cmp2
 generalize cmpI a c=r at g41 ⊢
 generalize cmpI b d=s at g42 ⊢
 go_enter Go.Proofs.Tryz.func97,Go.Proofs.Tryz.ntmps97
 go_wp2
 have f0:((W.alloc (Obj.cells #[Value.int IntKind.u32 a,Value.int IntKind.u8 b] 31)).alloc (Obj.cells #[Value.int IntKind.u32 c,Value.int IntKind.u8 d] 31)).heap[W.heap.size]? = some (Obj.cells #[Value.int IntKind.u32 a,Value.int IntKind.u8 b] 31):=by
  rw[Below.heap_alloc _ _ _ (by simp)];exact heap_alloc_new W _
 have f1:((W.alloc (Obj.cells #[Value.int IntKind.u32 a,Value.int IntKind.u8 b] 31)).alloc (Obj.cells #[Value.int IntKind.u32 c,Value.int IntKind.u8 d] 31)).heap[W.heap.size + 1]? = some (Obj.cells #[Value.int IntKind.u32 c,Value.int IntKind.u8 d] 31):=by
  have:=heap_alloc_new (W.alloc (Obj.cells #[Value.int IntKind.u32 a,Value.int IntKind.u8 b] 31)) (Obj.cells #[Value.int IntKind.u32 c,Value.int IntKind.u8 d] 31)
  simpa using this
 have fs:((W.alloc (Obj.cells #[Value.int IntKind.u32 a,Value.int IntKind.u8 b] 31)).alloc (Obj.cells #[Value.int IntKind.u32 c,Value.int IntKind.u8 d] 31))=grow W #[Obj.cells #[Value.int IntKind.u32 a,Value.int IntKind.u8 b] 31,Obj.cells #[Value.int IntKind.u32 c,Value.int IntKind.u8 d] 31]:=by
  rw[alloc_eq_grow,alloc_eq_grow,grow_grow];rfl
 generalize ((W.alloc (Obj.cells #[Value.int IntKind.u32 a,Value.int IntKind.u8 b] 31)).alloc (Obj.cells #[Value.int IntKind.u32 c,Value.int IntKind.u8 d] 31))=W2 at f0 f1 fs ⊢
 replace fs:=fs.symm
 have c0:W2.cell? ⟨W.heap.size,0,none⟩=some (.int .u32 a):=by simp[World.cell?,f0]
 have c1:W2.cell? ⟨W.heap.size,1,none⟩=some (.int .u8 b):=by simp[World.cell?,f0]
 have c2:W2.cell? ⟨W.heap.size + 1,0,none⟩=some (.int .u32 c):=by simp[World.cell?,f1]
 have c3:W2.cell? ⟨W.heap.size + 1,1,none⟩=some (.int .u8 d):=by simp[World.cell?,f1]
 refine wp_region_still_tail 10 (show prog.follows .mixedOrders=true from rfl) (by kernel_rfl) ?_
 change wpStill _ _ W2.drew _ _ _
 simp only[List.take_succ_cons,List.take_zero,List.drop_succ_cons,List.drop_zero]
 still_step
 still_step
 still_step
 still_step
 still_call (g41 _)
 still_step
 still_step
 still_step
 still_step
 still_call (g42 _)
 refine wpStill_nil ?_
 change wpList _ _ _ _ _ W2.drew
 go_wp2_with (go_at_call 145;refine(k40v _ _ _ _).mono ?_;rintro e w' ⟨rfl,rfl⟩)
 go_ret
 refine⟨rfl,1,#[Obj.cells #[Value.int IntKind.u32 a,Value.int IntKind.u8 b] 31,Obj.cells #[Value.int IntKind.u32 c,Value.int IntKind.u8 d] 31,Obj.cells #[Value.int IntKind.i64 r,Value.int IntKind.i64 s] 3],?_⟩
 subst fs
 show(World.alloc _ _).drew=_
 rw[alloc_eq_grow,grow_grow]
 rfl
end
section
open Go.Proofs.Tryz (prog)
attribute [local irreducible] CallV RoundV
instance:Inhabited Prefix:=⟨⟨0,0⟩⟩
def pkey (p:Prefix):Nat:=p.addr.toNat * 256 + p.len.toNat
theorem pkey_inj {p q:Prefix} (h:pkey p=pkey q):p=q:=by
 have h1:=p.len.toNat_lt
 have h2:=q.len.toNat_lt
 unfold pkey at h
 exact pfx_eq (by omega) (by omega)
theorem cmpP_lt (p q:Prefix):cmpP p q < 0↔pkey p < pkey q:=by
 have h1:=p.len.toNat_lt
 have h2:=q.len.toNat_lt
 rw[cmpP_def]
 unfold pkey
 repeat' split
 all_goals first|(constructor<;>intro _<;>omega)
theorem cmp2_P (p q:Prefix):cmp2 p.addr.toNat p.len.toNat q.addr.toNat q.len.toNat=cmpP p q:=by
 unfold cmp2 or2 cmpP orI
 by_cases h:cmpI p.addr.toNat q.addr.toNat=0
 ·by_cases h':cmpI p.len.toNat q.len.toNat=0<;>simp[h,h']
 ·simp[h]
theorem ltP (p q:Prefix):ltOf cmpP p q=decide (pkey p < pkey q):=by
 unfold ltOf
 rw[Bool.eq_iff_iff]
 simp only[decide_eq_true_eq]
 exact cmpP_lt p q
theorem swoP:Go.Sort.SWO (ltOf cmpP) where
 irrefl x:=by rw[ltP];simp
 trans x y z h1 h2:=by rw[ltP]at *;simp at *;omega
 ntrans x y z h1 h2:=by rw[ltP]at *;simp at *;omega
theorem totP (x y:Prefix) (h1:ltOf cmpP x y=false) (h2:ltOf cmpP y x=false):x=y:=by
 rw[ltP]at *
 simp at h1 h2
 exact pkey_inj (by omega)
def valP (p:Prefix):List Value:=[.int .u32 p.addr.toNat,.int .u8 p.len.toNat]
def sortPs (l:List Prefix):List Prefix:=l.mergeSort fun x y=>!(ltOf cmpP) y x
theorem sortPs_len (l:List Prefix):(sortPs l).length=l.length:=by unfold sortPs;exact List.length_mergeSort l
theorem flatP_len:∀l:List Prefix,(rowsP l).flatten.length=l.length * 2
 | []=>rfl
 | p :: l=>by
  have:=flatP_len l
  simp only[rowsP,List.map_cons,List.flatten_cons,List.length_append,List.length_cons]at this ⊢
  rw[this]
  simp[cellsP]
  omega
theorem flatP:∀(l:List Prefix) (j:Nat) (v:V),(rowsP l).flatten[j]? = some v→j < l.length * 2∧∀(G:Gh) (w:World) (u:Value),vr G w v u↔u=(valP (l.toArray[j / 2]!))[j % 2]!
 | [],j,v,h=>by simp at h
 | p :: l,0,v,h=>by
  simp[cellsP]at h
  subst h
  exact⟨by simp<;>omega,fun G w u=>⟨fun h=>by cases h;simp[valP],fun h=>by subst h;simp[valP];exact .int _ _⟩⟩
 | p :: l,1,v,h=>by
  simp[cellsP]at h
  subst h
  exact⟨by simp<;>omega,fun G w u=>⟨fun h=>by cases h;simp[valP],fun h=>by subst h;simp[valP];exact .int _ _⟩⟩
 | p :: l,j + 2,v,h=>by
  have h':(rowsP l).flatten[j]? = some v:=by simpa[cellsP]using h
  obtain⟨h1,h2⟩:=flatP l j v h'
  refine⟨by simp<;>omega,fun G w u=>?_⟩
  rw[h2 G w u]
  have e1:(j + 2) / 2=j / 2 + 1:=by omega
  have e2:(j + 2) % 2=j % 2:=by omega
  rw[e1,e2]
  simp
theorem flatP_at (l:List Prefix) (j:Nat) (h:j < l.length * 2):∃v,(rowsP l).flatten[j]? = some v:=
 ⟨_,List.getElem?_eq_getElem (by rw[flatP_len];exact h)⟩
theorem oneP (p:Prefix) (i:Nat):((valP p)[i]!).oneCell'=true:=by
 rcases i with _|_|i
 ·rfl
 ·rfl
 ·simp[valP];rfl
section
variable {w : World} {c : Nat} {cs : Array Value} {ty : TypeId} (hh : w.heap[c]? = some (.cells cs ty (0, 0)))
include hh
theorem sw_at (n:Nat) (d:Array Prefix) (os:Array Obj):(sortWorldK valP 2 w c 0 n d os).heap[c]? = some (.cells (Go.Sort.putCells id 0 (Go.Sort.flatK valP 2 d) cs) ty (0,0)):=by
 have hlt:c < w.heap.size:=(Array.getElem?_eq_some_iff.1 hh).1
 unfold sortWorldK Go.Sort.grow Go.Sort.putRowK Go.Sort.putRow Go.Sort.mapBlock
 show((w.heap.modify c _)++ os)[c]? = _
 rw[Array.getElem?_append_left (by simpa using hlt)]
 simp[Array.getElem?_modify,hh,Go.Sort.onCells]
end
theorem sw_other {w:World} {c:Nat} (n:Nat) (d:Array Prefix) (os:Array Obj) {k:Nat} (hk:k < w.heap.size) (hne:k ≠ c):(sortWorldK valP 2 w c 0 n d os).heap[k]? = w.heap[k]?:=by
 unfold sortWorldK Go.Sort.grow Go.Sort.putRowK Go.Sort.putRow Go.Sort.mapBlock
 show((w.heap.modify c _)++ os)[k]? = _
 rw[Array.getElem?_append_left (by simpa using hk)]
 simp[Array.getElem?_modify,Ne.symm hne]
theorem sw_size {w:World} {c:Nat} (n:Nat) (d:Array Prefix) (os:Array Obj):w.heap.size≤(sortWorldK valP 2 w c 0 n d os).heap.size:=by
 unfold sortWorldK Go.Sort.grow Go.Sort.putRowK Go.Sort.putRow Go.Sort.mapBlock
 show _≤((w.heap.modify c _)++ os).size
 simp
theorem sortF_ok (fr ex:Bool) (l:List Prefix) (hl:l.length < 4611686018427387904) :
  CallV prog 143 [.osl 0 2 0 l.length,.fn (.func 97) [] []] [(0,some (.arr fr ex 31 2 (rowsP l)))] 1 (fun v' h' nx'=>v'=.tup []∧h'=[(0,some (.arr fr ex 31 2 (rowsP (sortPs l))))]∧nx'=1):=by
 unfold CallV
 refine⟨⟨_,Go.Proofs.Tryz.func143⟩,fun G w us hr hv=>.inl ⟨⟨_,Go.Proofs.Tryz.func143,rfl,by decide⟩,?_⟩⟩
 obtain⟨u,u',rfl,hu,hu'⟩:=vrs_two hv
 obtain rfl:u'=.func (.func 97) #[] #[]:=by
  cases hu' with
  | fn _ _ _ us ws h1 h2 _ _=>
   cases us with
   | nil=>cases ws with
    | nil=>rfl
    | cons _ _=>simp at h2
   | cons _ _=>simp at h1
 have htup:∀{G:Gh} {w:World},vr G w (.tup []) (.tuple #[]):=fun {G w}=>.tup [] [] rfl (fun j v u h=>by simp at h)
 have hown:=hr.own 0 _ rfl
 by_cases h0:l=[]
 ·subst h0
  obtain⟨A,cap,rfl⟩:∃A cap,u=.slice A 0 cap:=by
   cases hu with
   | osl _ _ _ _ c cap m _ _ _ _ _=>exact⟨_,_,rfl⟩
   | oslz _ _ _ A=>exact⟨_,_,rfl⟩
  refine(AnyF.slices_SortFunc_none Go.Proofs.Tryz.sortPfx A cap _ w).mono ?_
  rintro e w' ⟨rfl,rfl⟩
  refine⟨_,_,_,_,G,rfl,⟨rfl,rfl,rfl⟩,htup,?_,Evo.refl _ _ _,Nat.le_refl _⟩
  have:sortPs []=[]:=by simp[sortPs]
  rw[this]
  exact hr
 have hpos:0 < l.length:=List.length_pos_iff.2 h0
 obtain⟨hrow,hH⟩:(∀x,x∈rowsP l→x.length=2)∧((G.ι 0=none∧rowsP l=[])∨Holds G w 0 fr ex 31 (rowsP l).flatten):=hown
 obtain⟨c,cs,hι,hh,hle,hex,hfr,hcell,hone⟩:Holds G w 0 fr ex 31 (rowsP l).flatten:=by
  rcases hH with⟨_,h⟩|h
  ·exact absurd (by simpa using h) h0
  ·exact h
 obtain⟨cap,rfl⟩:∃cap,u=.slice (some ⟨c,0,none⟩) l.toArray.size cap:=by
  generalize hn:l.length=n at hu
  cases hu with
  | osl _ _ _ _ c' cap m hc _ _ _ _=>
   rw[hι]at hc
   obtain rfl:=Option.some.inj hc
   exact⟨cap,by simp[hn]⟩
  | oslz _ _ _ A=>omega
 have hclt:c < w.heap.size:=hr.lt 0 c hι
 have hHK:Go.Sort.HoldsK valP 2 w c 0 l.toArray:=by
  intro j hj
  rw[Go.Sort.size_flatK]at hj
  have hj':j < l.length * 2:=by simpa using hj
  obtain⟨v,hv⟩:=flatP_at l j hj'
  obtain⟨u,hu,_,hvu⟩:=hcell j v hv
  rw[(flatP l j v hv).2 G w u]at hvu
  refine⟨?_,?_⟩
  ·rw[Go.Sort.get_flatK _ _ _ _ hj,← hvu]
   simp[World.cell?,hh,hu]
  ·simp only[World.frozen?,hh]
   rfl
 have hcmp:CmpLays prog 97 #[] valP 2 cmpP c 0 l.toArray.size w:=by
  intro m os dk _ x y
  have:=k16 x.addr.toNat x.len.toNat y.addr.toNat y.len.toNat (sortWorldK valP 2 w c 0 m dk os)
  rw[cmp2_P]at this
  exact this
 have eg:∀args w,(callFunc 97 args).run prog w=.ok (.enter 97 args) w:=enters_of Go.Proofs.Tryz.func97 (by kernel_rfl) rfl
 refine(AnyQ.slices_SortFunc_total Go.Proofs.Tryz.sortPfx 2 Go.Proofs.Tryz.isAgg31 Go.Proofs.Tryz.sizeOf31 valP (fun _=>rfl) (fun x v hv=>by simp[valP]at hv;rcases hv with rfl|rfl<;>rfl) cmpP swoP 97 #[] c 0 cap l.toArray w eg hcmp hHK hclt (by simpa using hl) totP).mono ?_
 rintro e w' ⟨rfl,n,os,rfl⟩
 have el:(l.toArray.toList.mergeSort fun x y=>!(ltOf cmpP) y x)=sortPs l:=rfl
 rw[el]
 have hapart:∀k,G.amb k→k ≠ c:=fun k hk e=>hr.apart 0 _ c rfl hι (e▸hk)
 have hat:=sw_at hh n (sortPs l).toArray os
 have hkeep:∀k,G.amb k→(sortWorldK valP 2 w c 0 n (sortPs l).toArray os).heap[k]? = w.heap[k]?:=fun k hk=>sw_other n _ os (hr.amb_lt k hk) (hapart k hk)
 have hsz:=sw_size (w:=w) (c:=c) n (sortPs l).toArray os
 have hcs:(Go.Sort.putCells id 0 (Go.Sort.flatK valP 2 (sortPs l).toArray) cs).size=cs.size:=by simp[Go.Sort.putCells]
 have hgot:∀j u,(Go.Sort.putCells id 0 (Go.Sort.flatK valP 2 (sortPs l).toArray) cs)[j]? = some u→(j < l.length * 2∧u=(valP ((sortPs l).toArray[j / 2]!))[j % 2]!)∨cs[j]? = some u:=by
  intro j u hj
  simp only[Go.Sort.putCells,Array.getElem?_mapIdx,Option.map_eq_some_iff]at hj
  obtain⟨x,hx,hj⟩:=hj
  split at hj
  ·rename_i hlt
   rw[Go.Sort.size_flatK]at hlt
   have h2:=hlt.2
   rw[Nat.zero_add]at h2
   left
   refine⟨by simpa[sortPs_len]using h2,?_⟩
   rw[← hj,Nat.sub_zero,Go.Sort.get_flatK _ _ _ _ h2]
   rfl
  ·right;rw[hx,hj]
 refine⟨_,_,_,_,G,rfl,⟨rfl,rfl,rfl⟩,htup,⟨fun k hk=>Nat.lt_of_lt_of_le (hr.amb_lt k hk) hsz,Nat.le_trans hr.B_le hsz,hr.dom,fun b blk hb=>?_,fun b b' k k' c' hb hb' _ _=>?_,fun b k c' hb hc'=>?_,fun b c' hc'=>Nat.lt_of_lt_of_le (hr.lt b c' hc') hsz,fun b k hb=>?_,hr.gl.to (fun _ h=>h) hkeep⟩,
  ⟨rfl,rfl,rfl,hsz,rfl,fun _ h=>h,hkeep,fun k m hm=>?_,fun _ _ _ h=>h,fun k hk hn=>sw_other n _ os hk (fun e=>hn 0 (e▸hι)),fun k hk _=>.inl hk,fun b k hk _=>⟨b,hk⟩⟩,Nat.le_refl _⟩
 ·rw[hget_cons]at hb
  split at hb
  ·rename_i e
   subst e
   cases hb
   refine⟨fun x hx=>?_,.inr ⟨c,_,hι,hat,?_,fun he=>?_,hfr,fun j v hj=>?_,fun j u hu=>?_⟩⟩
   ·obtain⟨p,_,rfl⟩:=List.mem_map.1 hx;rfl
   ·rw[hcs,flatP_len,sortPs_len,← flatP_len];exact hle
   ·rw[hcs,flatP_len,sortPs_len,← flatP_len];exact hex he
   ·obtain⟨hj',hvr⟩:=flatP _ j v hj
    rw[sortPs_len]at hj'
    have hlt:j < cs.size:=by rw[flatP_len]at hle;omega
    obtain⟨x,hx⟩:∃x,(Go.Sort.putCells id 0 (Go.Sort.flatK valP 2 (sortPs l).toArray) cs)[j]? = some x:=⟨_,Array.getElem?_eq_getElem (by rw[hcs];exact hlt)⟩
    have hxe:x=(valP ((sortPs l).toArray[j / 2]!))[j % 2]!:=by
     simp only[Go.Sort.putCells,Array.getElem?_mapIdx,Option.map_eq_some_iff]at hx
     obtain⟨y,hy,hx⟩:=hx
     have hj2:j < (sortPs l).toArray.size * 2:=by simpa[sortPs_len]using hj'
     rw[if_pos ⟨Nat.zero_le _,by rw[Go.Sort.size_flatK,Nat.zero_add];exact hj2⟩,Nat.sub_zero,Go.Sort.get_flatK _ _ _ _ hj2]at hx
     exact hx.symm
    exact⟨x,hx,by rw[hxe];exact oneP _ _,(hvr _ _ _).2 hxe⟩
   ·rcases hgot j u hu with⟨_,rfl⟩|h
    ·exact oneP _ _
    ·exact hone j u h
  ·simp[hget]at hb
 ·rw[hget_cons]at hb hb'
  split at hb
  ·split at hb'
   ·omega
   ·simp[hget]at hb'
  ·simp[hget]at hb
 ·rw[hget_cons]at hb
  split at hb
  ·rename_i e
   subst e
   exact hr.apart 0 _ c' rfl hc'
  ·simp[hget]at hb
 ·rw[hget_cons]at hb
  split at hb
  ·omega
  ·simp[hget]at hb
 ·by_cases e:k=c
  ·subst e
   unfold csz at hm ⊢
   rw[hat]
   rw[hh]at hm
   simpa[hcs]using hm
  ·have hlt:k < w.heap.size:=by
    unfold csz at hm
    split at hm
    ·rename_i e;exact(Array.getElem?_eq_some_iff.1 e).1
    ·cases hm
   unfold csz at hm ⊢
   rw[sw_other n _ os hlt e]
   exact hm
end
section
open Go.Proofs.Tryz (prog)
attribute [local irreducible] CallV RoundV aggK
def ddS (ds:List Prefix) (p:Prefix):List Prefix:=if prefOk p then(if p∈ds then ds else ds ++ [p])else ds
def dd (l:List Prefix):List Prefix:=l.foldl ddS []
theorem dd_succ {l:List Prefix} {i:Nat} (h:i < l.length):dd (l.take (i + 1))=ddS (dd (l.take i)) l[i]:=by
 unfold dd
 rw[List.take_succ_eq_append_getElem h,List.foldl_append]
 rfl
theorem ddS_len (ds:List Prefix) (p:Prefix):(ddS ds p).length≤ds.length + 1:=by
 unfold ddS
 split
 ·split<;>simp
 ·omega
theorem dd_len (l:List Prefix):(dd l).length≤l.length:=by
 have key:∀(l acc:List Prefix),(l.foldl ddS acc).length≤acc.length + l.length:=by
  intro l
  induction l with
  | nil=>intro acc;simp
  | cons p l ih=>
   intro acc
   have:=ih (ddS acc p)
   have:=ddS_len acc p
   simp only[List.foldl_cons,List.length_cons]
   omega
 have:=key l []
 simpa[dd]using this
def esP (ds:List Prefix):List (V × V):=ds.map fun p=>(encP p,.bool true)
theorem esP_free (ds:List Prefix):∀kv∈esP ds,Free kv.1∧Free kv.2:=by
 intro kv h
 obtain⟨p,_,rfl⟩:=List.mem_map.1 h
 exact⟨encP_free p,.bool⟩
theorem esP_keys (ds:List Prefix):KeysV tab 31 (esP ds):=by
 intro kv h
 obtain⟨p,_,rfl⟩:=List.mem_map.1 h
 exact keyP p
theorem encP_inj {p q:Prefix} (h:encP p=encP q):p=q:=by
 simp only[encP,cellsP,V.agg.injEq,List.cons.injEq,V.int.injEq,true_and,and_true]at h
 exact pfx_eq (by omega) (by omega)
theorem set_self {α:Type}:∀{l:List α} {i:Nat} {x:α},l[i]? = some x→l.set i x=l
 | [],_,_,h=>by simp at h
 | a :: l,0,x,h=>by simp at h;subst h;rfl
 | a :: l,i + 1,x,h=>by simp at h;simp[set_self h]
theorem put_ok (ds:List Prefix) (p:Prefix) (hp:prefOk p=true):∃r,MPos (esP ds) (encP p) r∧mput (esP ds) (encP p) (.bool true) r=esP (ddS ds p):=by
 by_cases h:p∈ds
 ·obtain⟨i,hi⟩:=List.getElem?_of_mem h
  have hi':(esP ds)[i]? = some (encP p,.bool true):=by simp[esP,hi]
  exact⟨some i,⟨_,hi'⟩,by simp only[mput,set_self hi'];rw[ddS,if_pos hp,if_pos h]⟩
 ·refine⟨none,fun kv hkv e=>?_,?_⟩
  ·obtain⟨q,hq,rfl⟩:=List.mem_map.1 hkv
   exact h (encP_inj e▸hq)
  ·rw[ddS,if_pos hp,if_neg h]
   simp[mput,esP]
theorem sortPs_sorted (l:List Prefix):(sortPs l).Pairwise (fun x y=>pkey x≤pkey y):=by
 have:=List.pairwise_mergeSort (le:=fun x y:Prefix=>!(ltOf cmpP) y x) (fun a b c h1 h2=>by simp[ltP]at *;omega) (fun a b=>by simp[ltP];omega) l
 exact this.imp fun h=>by simpa[ltP]using h
theorem sorted_eq:∀{a b:List Prefix},a.Perm b→a.Pairwise (fun x y=>pkey x≤pkey y)→b.Pairwise (fun x y=>pkey x≤pkey y)→a=b
 | [],b,h,_,_=>by simpa using h.length_eq.symm
 | x :: a,[],h,_,_=>by have:=h.length_eq;simp at this
 | x :: a,y :: b,h,h1,h2=>by
  rw[List.pairwise_cons]at h1 h2
  have e:x=y:=by
   have m1:x∈y :: b:=h.mem_iff.1 (by simp)
   have m2:y∈x :: a:=h.mem_iff.2 (by simp)
   rcases List.mem_cons.1 m1 with e|m1
   ·exact e
   ·rcases List.mem_cons.1 m2 with e|m2
    ·exact e.symm
    ·have q1:=h1.1 y m2
     have q2:=h2.1 x m1
     exact pkey_inj (by omega)
  subst e
  rw[sorted_eq (List.Perm.cons_inv h) h1.2 h2.2]
theorem sortPs_perm {a b:List Prefix} (h:a.Perm b):sortPs a=sortPs b:=
 sorted_eq (((List.mergeSort_perm a _).trans h).trans (List.mergeSort_perm b _).symm) (sortPs_sorted a) (sortPs_sorted b)
theorem esP_erase:∀(l:List Prefix) (k:Nat),(esP l).eraseIdx k=esP (l.eraseIdx k)
 | [],_=>by simp[esP]
 | p :: l,0=>by simp[esP]
 | p :: l,k + 1=>by simpa[esP]using esP_erase l k
theorem perm_erase:∀{l:List Prefix} {k:Nat} {p:Prefix},l[k]? = some p→(p :: l.eraseIdx k).Perm l
 | [],_,_,h=>by simp at h
 | a :: l,0,p,h=>by simp at h;subst h;simp
 | a :: l,k + 1,p,h=>by
  have h:l[k]? = some p:=by simpa using h
  rw[List.eraseIdx_cons_succ]
  exact(List.Perm.swap a p _).trans ((perm_erase h).cons a)
theorem perm_step {xs rest:List Prefix} {k:Nat} {p:Prefix} (h:rest[k]? = some p):((xs ++ [p])++ rest.eraseIdx k).Perm (xs ++ rest):=by
 rw[List.append_assoc]
 refine List.Perm.append_left xs ?_
 exact perm_erase h
theorem sort_ok (fr:Bool) (l:List Prefix) (hb:l.length≤1000):PCon prog 109 [encPs fr l] (encPs true (sortPs (dd l))):=by
 refine callV_of (fn:=Go.Proofs.Tryz.f109) (body:=_) tab_ok mixed rfl rfl (by decide) (by simp[Go.Proofs.Tryz.f109]) ?_
 conv=>whnf
 intro hl
 have hl:l.length≤maxLen:=by simpa[gd]using hl
 conv=>whnf
 refine vcg_loop tab_ok mixed (fun i:{i:Nat // i≤l.length}=>⟨[(3,.mapp 0),(7,encPs fr l),(8,cI l.length),(9,cI i.1)],[(0,some (.map (esP (dd (l.take i.1)))))],1⟩) (fun i=>l.length - i.1) ⟨0,by omega⟩ (Wk.of id [] ⟨.mapp rfl (by omega),.free (encPs_free _ _),.int_of (by simp),.int_of rfl,trivial⟩ (LeH.of ⟨⟨by omega,.inl ⟨by simp,_,rfl,LeB.map rfl (by simp)⟩⟩,trivial⟩ (fun _ _ _ _ h=>h) (fun _ _=>rfl) (by omega) (by simp))) (fun i=>?_)
 obtain⟨i,hi⟩:=i
 conv=>whnf
 split
 ·rename_i hc
  have hc:i < l.length:=by simpa using hc
  conv=>whnf
  refine ixK (idxP hc) ?_
  conv=>whnf
  refine callV_pure (uRight_ok l[i]) ⟨.free (encP_free _),trivial⟩ ?_
  conv=>whnf
  split
  ·rename_i hp
   conv=>whnf
   refine⟨esP_keys _,keyP _,?_⟩
   obtain⟨r,hr,hput⟩:=put_ok (dd (l.take i)) l[i] hp
   refine⟨r,hr,?_⟩
   have hput:mput (esP (dd (l.take i))) (encP l[i]) (.bool true) r=esP (dd (l.take (i + 1))):=by rw[dd_succ hc];exact hput
   conv=>whnf
   exact⟨⟨i + 1,by omega⟩,Wk.of id [] ⟨.mapp rfl (by omega),.free (encPs_free _ _),.int_of rfl,.int_of (wrap64_succ hc hl),trivial⟩ (LeH.of ⟨⟨by omega,.inl ⟨by simp,_,rfl,LeB.map hput (by have:=esP_free (dd (l.take (i + 1)));rw[← hput]at this;exact this)⟩⟩,trivial⟩ (fun _ _ _ _ h=>h) (fun _ _=>rfl) (by omega) (by simp)),by simp only;omega⟩
  ·rename_i hp
   conv=>whnf
   refine⟨⟨i + 1,by omega⟩,Wk.of id [] ⟨.mapp rfl (by omega),.free (encPs_free _ _),.int_of rfl,.int_of (wrap64_succ hc hl),trivial⟩ (LeH.of ⟨⟨by omega,.inl ⟨by simp,_,rfl,LeB.map ?_ (esP_free _)⟩⟩,trivial⟩ (fun _ _ _ _ h=>h) (fun _ _=>rfl) (by omega) (by simp)),by simp only;omega⟩
   rw[dd_succ hc,ddS,if_neg (by simpa using hp)]
 ·rename_i hc
  have hc:i=l.length:=by simp at hc;omega
  subst hc
  conv=>whnf
  refine callV_freeze (args':=[.imap false (esP (dd l))]) [0] (h':=[]) (LeH.nil (by omega) (fun _ _=>rfl) (one_none rfl)) ⟨.freezeM (by simp) rfl (by simp only[List.take_length]) (esP_free _),trivial⟩ ?_
  refine callV_of (fn:=Go.Proofs.Tryz.f151) (body:=_) tab_ok mixed rfl rfl (by decide) (by simp[Go.Proofs.Tryz.f151]) ?_
  conv=>whnf
  refine⟨_,_,_,Ends.here,?_⟩
  conv=>whnf
  refine callV_of (fn:=Go.Proofs.Tryz.f95) (body:=_) tab_ok mixed rfl rfl (by decide) (by simp[Go.Proofs.Tryz.f95]) ?_
  conv=>whnf
  refine callV_of (fn:=Go.Proofs.Tryz.f142) (body:=_) tab_ok mixed rfl rfl (by decide) (by simp[Go.Proofs.Tryz.f142]) ?_
  conv=>whnf
  refine callV_of (fn:=Go.Proofs.Tryz.f172) (body:=_) tab_ok mixed rfl rfl (by decide) (by simp[Go.Proofs.Tryz.f172]) ?_
  conv=>whnf
  refine callV_loop [(2,.ptr 2 0)] ⟨rfl,trivial⟩ fun asg' body' hasg hbody=>?_
  refine callV_of (fn:=Go.Proofs.Tryz.f179) (body:=_) tab_ok mixed rfl rfl (by decide) (by simp[Go.Proofs.Tryz.f179]) ?_
  conv=>whnf
  refine vcg_loop tab_ok mixed (fun p:{p:List Prefix × List Prefix // (p.1 ++ p.2).Perm (dd l)}=>⟨[(0,.yld 3),(5,.ptr 4 0)],[(3,some (.loop 13 [(2,.ptr 2 0)] [7] asg' body' .ready none)),(2,some (.var true 84 [.osl 5 2 0 p.1.1.length])),(4,some (.iter none (esP p.1.2))),(5,some (.arr true false 31 2 (rowsP p.1.1)))],6⟩) (fun p=>p.1.2.length) ⟨([],dd l),by simp⟩ ?_ (fun p=>?_)
  ·refine Wk.of id [] ⟨.yld rfl (by omega),.ptr rfl (by omega),trivial⟩ (LeH.of ⟨⟨by omega,.inl ⟨by simp,_,rfl,rfl,rfl,rfl,rfl,rfl,rfl,.ptr rfl (by omega),trivial⟩⟩,⟨by omega,.inl ⟨by simp,_,rfl,id,rfl,.osl0,trivial⟩⟩,⟨by omega,.inl ⟨by simp,_,rfl,LeB.iter rfl (esP_free _)⟩⟩,⟨by omega,.inr ⟨by simp,_,_,_,_,rfl⟩⟩,trivial⟩ (fun _ _ _ _ h=>h) (fun _ _=>rfl) (by omega) (by simp))
  obtain⟨⟨xs,rest⟩,hp⟩:=p
  conv=>whnf
  refine⟨fun h0=>?_,fun k kv hk=>?_⟩
  ·have h0:rest=[]:=by simpa[esP]using h0
   subst h0
   rw[List.append_nil]at hp
   conv=>whnf
   refine⟨_,_,_,Ends.here,?_⟩
   conv=>whnf
   refine⟨_,_,_,Ends.here,?_⟩
   conv=>whnf
   refine⟨_,_,_,Ends.here,?_⟩
   conv=>whnf
   have hxl:xs.length≤1000:=by
    have h1:xs.length=(dd l).length:=by have:=hp.length_eq;simpa using this
    have h2:=dd_len l
    omega
   refine callV_frame (nx:=6) (n0:=1) (renOf [(0,5)]) (sortF_ok true false xs (by omega)) (by repeat' (first|exact True.intro|exact .osl_of rfl (by omega) rfl|exact .free (.fn (by simp) (by simp))|exact LeB.arrE rfl (rowsP_free _) id id|exact .A|exact LeL.fr rfl|refine⟨?_,?_⟩)) (LeH.of (by repeat' (first|exact LHa|exact .osl_of rfl (by omega) rfl|exact .free (.fn (by simp) (by simp))|exact LeB.arrE rfl (rowsP_free _) id id|exact .A|exact LeL.fr rfl|exact LHb|refine Or.inl ⟨by simp,_,rfl,?_⟩|exact Or.inr ⟨by simp,_,_,_,_,rfl⟩|refine⟨rfl,rfl,rfl,rfl,rfl,rfl,?_⟩|refine⟨?_,?_⟩)) (show ∀b∈([0]:List Nat),∀b'∈([0]:List Nat),(renOf [(0,5)]) b=(renOf [(0,5)]) b'→b=b' by decide) (fun _ h=>by omega) (by omega) (by simp)) (fun b hb=>by match b,hb with|0,_=>exact ne_none_of rfl) (by decide) ?_
   rintro v h' nx' ⟨rfl,rfl,rfl⟩ _
   refine⟨.tup [],[(5,some (.arr true false 31 2 (rowsP (sortPs xs))))],.free (.tup (by simp)),(by repeat' (first|exact True.intro|exact Or.inr ⟨by decide,rfl⟩|exact Or.inl ⟨0,rfl,by omega,_,rfl,RenB.arr (rowsP_free _)⟩|refine⟨?_,?_⟩)),?_⟩
   conv=>whnf
   refine⟨_,_,_,Ends.here,?_⟩
   conv=>whnf
   have hs:sortPs xs=sortPs (dd l):=sortPs_perm (by simpa using hp)
   exact Ends.pure [5] (LeV.freeze_of (by simp) rfl (by simp[sortPs_len]) (rowsP_free _) (by rw[hs];exact List.take_of_length_le (by simp[sortPs_len,← hs]))) (one_none rfl)
  ·obtain⟨p,hpk,rfl⟩:∃p,rest[k]? = some p∧kv=(encP p,.bool true):=by
    simp only[esP,List.getElem?_map,Option.map_eq_some_iff]at hk
    obtain⟨p,h1,h2⟩:=hk
    exact⟨p,h1,h2.symm⟩
   conv=>whnf
   subst hasg hbody
   refine roundV_of tab_ok mixed rfl (by simp) (show 3 < 7 by omega) ?_
   conv=>whnf
   have hlen:xs.length + 1≤1000:=by
    have h1:=hp.length_eq
    have h2:=dd_len l
    have h3:k < rest.length:=(List.getElem?_eq_some_iff.1 hpk).1
    simp only[List.length_append]at h1
    omega
   refine⟨rfl,by first|rfl|(simp;done),by first|rfl|(simp;done),⟨rfl,rfl,rfl,rfl,by decide⟩,by simp[rowsP],⟨by simp[tab,tabOf,nth];omega,by simp;omega⟩,?_⟩
   conv=>whnf
   refine⟨rfl,?_⟩
   conv=>whnf
   have hperm:((xs ++ [p])++ rest.eraseIdx k).Perm (dd l):=(perm_step hpk).trans hp
   refine⟨⟨(xs ++ [p],rest.eraseIdx k),hperm⟩,Wk.of (renOf [(5,9)]) [] ⟨.yld rfl (by omega),.ptr rfl (by omega),trivial⟩ (LeH.of ⟨⟨by omega,.inl ⟨by simp,_,rfl,rfl,rfl,rfl,rfl,rfl,rfl,.ptr rfl (by omega),trivial⟩⟩,⟨by omega,.inl ⟨by simp,_,rfl,id,rfl,.osl_of rfl (by omega) (by simp),trivial⟩⟩,⟨by omega,.inl ⟨by simp,_,rfl,LeB.iter (esP_erase rest k) (fun kv h=>esP_free _ kv (List.mem_of_mem_eraseIdx h))⟩⟩,⟨by omega,.inl ⟨by simp,_,rfl,LeB.arrE (by simp[rowsP];exact⟨List.take_of_length_le (by simp),rfl⟩) (fun x hx v hv=>by
    rcases List.mem_append.1 hx with h|h
    ·exact rowsP_free xs x (List.mem_of_mem_take h) v hv
    ·simp at h;subst h;simp at hv;rcases hv with rfl|rfl<;>exact .int) id id⟩⟩,trivial⟩ (show ∀b∈([3,2,4,5]:List Nat),∀b'∈([3,2,4,5]:List Nat),renOf [(5,9)] b=renOf [(5,9)] b'→b=b' by decide) (show ∀b,b < 4→renOf [(5,9)] b=b by decide) (by omega) (by simp)),?_⟩
   show(rest.eraseIdx k).length < rest.length
   have:=(List.getElem?_eq_some_iff.1 hpk).1
   rw[List.length_eraseIdx]
   split<;>omega
end
section
open Go.Proofs.Tryz (prog)
attribute [local irreducible] CallV RoundV aggK
theorem cmpP_gt (p q:Prefix):0 < cmpP p q↔pkey q < pkey p:=by
 have h1:=p.len.toNat_lt
 have h2:=q.len.toNat_lt
 rw[cmpP_def]
 unfold pkey
 repeat' split
 all_goals first|(constructor<;>intro _<;>omega)
theorem mem_sortPs {l:List Prefix} {p:Prefix}:p∈sortPs l↔p∈l:=(List.mergeSort_perm l _).mem_iff
end
section
open Go.Proofs.Tryz (prog)
def riseOk (l:List Prefix):Prop:=∀(j:Nat) (h:j < l.length),prefOk l[j]=true∧∀h0:0 < j,pkey l[j - 1] < pkey l[j]
def riseP (l:List Prefix):Bool:=decide (sortPs (dd l)=l)
theorem strict_of_rise:∀{l:List Prefix},riseOk l→l.Pairwise (fun x y=>pkey x < pkey y)
 | [],_=>.nil
 | [x],_=>by simp
 | x :: y :: l,h=>by
  have ht:riseOk (y :: l):=fun j hj=>⟨(h (j + 1) (by simp at hj ⊢;omega)).1,fun h0=>by
   have:=(h (j + 1) (by simp at hj ⊢;omega)).2 (by omega)
   obtain⟨j',rfl⟩:∃j',j=j' + 1:=⟨j - 1,by omega⟩
   simpa using this⟩
  have hs:=strict_of_rise ht
  have h1:pkey x < pkey y:=(h 1 (by simp)).2 (by omega)
  rw[List.pairwise_cons]at hs ⊢
  refine⟨fun z hz=>?_,List.pairwise_cons.2 hs⟩
  rcases List.mem_cons.1 hz with rfl|hz
  ·exact h1
  ·have:=hs.1 z hz;omega
theorem rise_of_strict {l:List Prefix} (hr:∀p∈l,prefOk p=true) (hs:l.Pairwise (fun x y=>pkey x < pkey y)):riseOk l:=fun j h=>
 ⟨hr _ (List.getElem_mem h),fun h0=>List.pairwise_iff_getElem.1 hs (j - 1) j (by omega) h (by omega)⟩
theorem dd_mem {l:List Prefix} {p:Prefix} (h:p∈dd l):p∈l∧prefOk p=true:=by
 have key:∀(l acc:List Prefix),p∈l.foldl ddS acc→p∈acc∨(p∈l∧prefOk p=true):=by
  intro l
  induction l with
  | nil=>intro acc h;exact .inl h
  | cons x l ih=>
   intro acc h
   rcases ih _ h with h1|⟨h1,h2⟩
   ·unfold ddS at h1
    split at h1
    ·rename_i hx
     split at h1
     ·exact .inl h1
     ·rcases List.mem_append.1 h1 with h1|h1
      ·exact .inl h1
      ·obtain rfl:=List.mem_singleton.1 h1
       exact .inr ⟨by simp,hx⟩
    ·exact .inl h1
   ·exact .inr ⟨by simp[h1],h2⟩
 rcases key l [] h with h|h
 ·cases h
 ·exact h
theorem dd_nodup (l:List Prefix):(dd l).Nodup:=by
 have key:∀(l acc:List Prefix),acc.Nodup→(l.foldl ddS acc).Nodup:=by
  intro l
  induction l with
  | nil=>intro acc h;exact h
  | cons x l ih=>
   intro acc h
   refine ih _ ?_
   unfold ddS
   split
   ·split
    ·exact h
    ·rename_i hn
     rw[List.nodup_append]
     exact⟨h,by simp,fun a ha b hb e=>by simp at hb;subst hb;subst e;exact hn ha⟩
   ·exact h
 exact key l [] (by simp)
theorem dd_self {l:List Prefix} (hr:∀p∈l,prefOk p=true) (hn:l.Nodup):dd l=l:=by
 have key:∀(l acc:List Prefix),(∀p∈l,prefOk p=true)→(acc ++ l).Nodup→l.foldl ddS acc=acc ++ l:=by
  intro l
  induction l with
  | nil=>intro acc _ _;simp
  | cons x l ih=>
   intro acc hr hn
   have hx:x ∉ acc:=fun hm=>by
    rw[List.nodup_append]at hn
    exact hn.2.2 x hm x (by simp) rfl
   rw[List.foldl_cons,ddS,if_pos (hr x (by simp)),if_neg hx,ih _ (fun p hp=>hr p (by simp[hp])) (by simpa using hn)]
   simp
 exact key l [] hr (by simpa using hn)
theorem nodup_of_strict {l:List Prefix} (hs:l.Pairwise (fun x y=>pkey x < pkey y)):l.Nodup:=hs.imp fun h e=>by subst e;exact Nat.lt_irrefl _ h
theorem riseP_iff {l:List Prefix}:riseP l=true↔riseOk l:=by
 unfold riseP
 rw[decide_eq_true_eq]
 constructor
 ·intro h
  have hr:∀p∈l,prefOk p=true:=fun p hp=>by
   rw[← h]at hp
   exact(dd_mem (mem_sortPs.1 hp)).2
  have hn:l.Nodup:=by
   rw[← h]
   exact(List.mergeSort_perm (dd l) _).nodup_iff.2 (dd_nodup l)
  have hs:=sortPs_sorted (dd l)
  rw[h]at hs
  refine rise_of_strict hr ?_
  have:=List.pairwise_and_iff.2 ⟨hs,hn⟩
  exact this.imp fun⟨h1,h2⟩=>by
   rcases Nat.lt_or_ge (pkey _) (pkey _)with h|h
   ·exact h
   ·exact absurd (pkey_inj (by omega)) h2
 ·intro h
  have hs:=strict_of_rise h
  have hr:∀p∈l,prefOk p=true:=fun p hp=>by
   obtain⟨j,hj,rfl⟩:=List.getElem_of_mem hp
   exact(h j hj).1
  rw[dd_self hr (nodup_of_strict hs)]
  exact sorted_eq (List.mergeSort_perm l _) (sortPs_sorted l) (hs.imp fun h=>Nat.le_of_lt h)
end
section
open Go.Proofs.Tryz (prog)
attribute [local irreducible] CallV RoundV aggK
theorem urise_ok (fr:Bool) (l:List Prefix) (hb:l.length≤1000):PCon prog 61 [encPs fr l] (.bool (riseP l)):=by
 refine callV_of (fn:=Go.Proofs.Tryz.f61) (body:=_) tab_ok mixed rfl rfl (by decide) (by simp[Go.Proofs.Tryz.f61]) ?_
 conv=>whnf
 refine callV_pure (sort_ok fr l hb) ⟨.free (encPs_free _ _),trivial⟩ ?_
 conv=>whnf
 refine callV_pure (equalP_ok true fr (sortPs (dd l)) l) ⟨.free (encPs_free _ _),.free (encPs_free _ _),trivial⟩ ?_
 conv=>whnf
 exact(Ends.pA)
theorem any_none {l:List Prefix} {q:Prefix→Bool} {i:Nat} (hc:i < l.length) (hz:(l.take i).any q=false) (h:q l[i]=false):(l.take (i + 1)).any q=false:=by
 rw[List.take_succ_eq_append_getElem hc,List.any_append,hz]
 simpa using h
theorem indexP_ok (fr:Bool) (l:List Prefix) (p:Prefix):∃n:Int,PCon prog 153 [encPs fr l,encP p] (.int .i64 n)∧(0≤n↔l.any (fun x=>decide (p=x))=true):=by
 refine⟨if l.any (fun x=>decide (p=x))then(l.findIdx (fun x=>decide (p=x)):Nat)else -1,?_,by split<;>rename_i h<;>simp[h]⟩
 refine callV_of (fn:=Go.Proofs.Tryz.f153) (body:=_) tab_ok mixed rfl rfl (by decide) (by simp[Go.Proofs.Tryz.f153]) ?_
 conv=>whnf
 intro hl
 have hl:l.length≤maxLen:=by simpa[gd]using hl
 conv=>whnf
 refine vcg_loop tab_ok mixed (fun i:{i:Nat // i≤l.length∧(l.take i).any (fun x=>decide (p=x))=false}=>⟨[(0,encPs fr l),(3,.ptr 0 0),(7,cI l.length),(8,cI i.1)],[(0,some (.var true 31 (cellsP p)))],1⟩) (fun i=>l.length - i.1) ⟨0,by omega,by simp⟩ (Wk.of id [] ⟨.free (encPs_free _ _),.ptr rfl (by omega),.int_of (by simp),.int_of rfl,trivial⟩ (LeH.same ⟨⟨rfl,cellsP_free p,by omega⟩,trivial⟩ (by omega))) (fun i=>?_)
 obtain⟨i,hi,hz⟩:=i
 conv=>whnf
 split
 ·rename_i hc
  have hc:i < l.length:=by simpa using hc
  conv=>whnf
  refine ixK (idxP hc) ?_
  conv=>whnf
  refine eqlP p l[i] ?_
  conv=>whnf
  refine⟨by kernel_rfl,?_⟩
  conv=>whnf
  split
  ·rename_i h1
   have h1:p=l[i]:=by simpa using h1
   conv=>whnf
   refine Ends.pure [] (.int_of ?_) (by simp)
   have ha:l.any (fun x=>decide (p=x))=true:=List.any_eq_true.2 ⟨l[i],List.getElem_mem hc,by simp[h1]⟩
   rw[if_pos ha]
   congr 1
   symm
   rw[List.findIdx_eq hc]
   refine⟨by simp[h1],fun j hj=>?_⟩
   have:=List.any_eq_false.1 hz (l[j]'(by omega)) (by rw[List.mem_take_iff_getElem];exact⟨j,by omega,rfl⟩)
   simpa using this
  ·rename_i h1
   have h1:decide (p=l[i])=false:=by simpa using h1
   conv=>whnf
   exact⟨⟨i + 1,by omega,any_none hc hz h1⟩,Wk.of id [] ⟨.free (encPs_free _ _),.ptr rfl (by omega),.int_of rfl,.int_of (wrap64_succ hc hl),trivial⟩ (LeH.same ⟨⟨rfl,cellsP_free p,by omega⟩,trivial⟩ (by omega)),by simp only;omega⟩
 ·rename_i hc
  have hc:i=l.length:=by simp at hc;omega
  subst hc
  rw[List.take_length]at hz
  conv=>whnf
  refine Ends.pure [] (.int_of ?_) (by simp)
  rw[if_neg (by simp only[hz];decide)]
theorem containsP_ok (fr:Bool) (l:List Prefix) (p:Prefix):PCon prog 112 [encPs fr l,encP p] (.bool (l.any (fun x=>decide (p=x)))):=by
 obtain⟨n,hn,hiff⟩:=indexP_ok fr l p
 refine callV_of (fn:=Go.Proofs.Tryz.f112) (body:=_) tab_ok mixed rfl rfl (by decide) (by simp[Go.Proofs.Tryz.f112]) ?_
 conv=>whnf
 refine callV_pure hn ⟨.free (encPs_free _ _),.free (encP_free _),trivial⟩ ?_
 conv=>whnf
 refine(Ends.pure [] (by repeat' (first|exact True.intro|exact .bool_of (by rw[Bool.eq_iff_iff,← hiff];simp)|exact .A|exact LeL.fr rfl|refine .tupL ?_|refine .aggL ?_|refine⟨?_,?_⟩)) (by simp))
theorem indexFuncP_ok (fr:Bool) (l:List Prefix) (g:FuncId) (caps:List V) (q:Prefix→Bool) (hg:∀p,PCon prog g ([]++ [encP p]++ caps) (.bool (q p))) (hf:∀v∈caps,Free v):∃n:Int,PCon prog 152 [encPs fr l,.fn (.func g) [] caps] (.int .i64 n)∧(0≤n↔l.any q=true):=by
 refine⟨if l.any q then(l.findIdx q:Nat)else -1,?_,by split<;>rename_i h<;>simp[h]⟩
 refine callV_of (fn:=Go.Proofs.Tryz.f152) (body:=_) tab_ok mixed rfl rfl (by decide) (by simp[Go.Proofs.Tryz.f152]) ?_
 conv=>whnf
 intro hl
 have hl:l.length≤maxLen:=by simpa[gd]using hl
 conv=>whnf
 refine vcg_loop tab_ok mixed (fun i:{i:Nat // i≤l.length∧(l.take i).any q=false}=>⟨[(0,encPs fr l),(1,.fn (.func g) [] caps),(7,cI l.length),(8,cI i.1)],[],0⟩) (fun i=>l.length - i.1) ⟨0,by omega,by simp⟩ (Wk.of id [] ⟨.free (encPs_free _ _),.free (.fn (by simp) hf),.int_of (by simp),.int_of rfl,trivial⟩ (LeH.nil (Nat.le_refl _) (fun b h=>by omega) (by simp))) (fun i=>?_)
 obtain⟨i,hi,hz⟩:=i
 conv=>whnf
 split
 ·rename_i hc
  have hc:i < l.length:=by simpa using hc
  have hq:=hg l[i]
  conv=>whnf
  refine ixK (idxP hc) ?_
  conv=>whnf
  refine callV_pure hq (LeL.freeV (fun v hv=>?_)) ?_
  ·rcases List.mem_append.1 hv with h|h
   ·obtain rfl:=List.mem_singleton.1 h;exact encP_free _
   ·exact hf v h
  conv=>whnf
  split
  ·rename_i h1
   conv=>whnf
   refine Ends.pure [] (.int_of ?_) (by simp)
   have ha:l.any q=true:=List.any_eq_true.2 ⟨l[i],List.getElem_mem hc,h1⟩
   rw[if_pos ha]
   congr 1
   symm
   rw[List.findIdx_eq hc]
   refine⟨h1,fun j hj=>?_⟩
   have:=List.any_eq_false.1 hz (l[j]'(by omega)) (by rw[List.mem_take_iff_getElem];exact⟨j,by omega,rfl⟩)
   simpa using this
  ·rename_i h1
   conv=>whnf
   exact⟨⟨i + 1,by omega,any_none hc hz (by simpa using h1)⟩,Wk.of id [] ⟨.free (encPs_free _ _),.free (.fn (by simp) hf),.int_of rfl,.int_of (wrap64_succ hc hl),trivial⟩ (LeH.nil (Nat.le_refl _) (fun b h=>by omega) (by simp)),by simp only;omega⟩
 ·rename_i hc
  have hc:i=l.length:=by simp at hc;omega
  subst hc
  rw[List.take_length]at hz
  conv=>whnf
  refine Ends.pure [] (.int_of ?_) (by simp)
  rw[if_neg (by simp[hz])]
theorem containsFuncP_ok (fr:Bool) (l:List Prefix) (g:FuncId) (caps:List V) (q:Prefix→Bool) (hg:∀p,PCon prog g ([]++ [encP p]++ caps) (.bool (q p))) (hf:∀v∈caps,Free v):PCon prog 110 [encPs fr l,.fn (.func g) [] caps] (.bool (l.any q)):=by
 obtain⟨n,hn,hiff⟩:=indexFuncP_ok fr l g caps q hg hf
 refine callV_of (fn:=Go.Proofs.Tryz.f110) (body:=_) tab_ok mixed rfl rfl (by decide) (by simp[Go.Proofs.Tryz.f110]) ?_
 conv=>whnf
 refine callV_pure hn ⟨.free (encPs_free _ _),.free (.fn (by simp) hf),trivial⟩ ?_
 conv=>whnf
 refine(Ends.pure [] (by repeat' (first|exact True.intro|exact .bool_of (by rw[Bool.eq_iff_iff,← hiff];simp)|exact .A|exact LeL.fr rfl|refine .tupL ?_|refine .aggL ?_|refine⟨?_,?_⟩)) (by simp))
end
section
open Go.Proofs.Tryz (prog)
attribute [local irreducible] CallV RoundV aggK
theorem LeV.fz9 {h:Heap} {nx nx':Nat} {ρ:Nat→Nat} {Z:List Nat} {b:Nat} {fr:Bool} {ty:TypeId} {cells:List V} (hz:b∈Z) (hb:hget h b=some (.var fr ty cells)) (hf:∀v∈cells,Free v):LeV h nx ρ nx' Z (.ptr b 0) (.iptr fr cells):=LeV.freezeP (col:=0) hz hb hf
def apartP (a b:List Prefix):Bool:=!a.any (fun x=>b.any (fun y=>decide (x=y)))
theorem apart1_ok (fr:Bool) (b:List Prefix) (p:Prefix):PCon prog 111 ([]++ [encP p]++ [.iptr true [encPs fr b]]) (.bool (b.any (fun y=>decide (p=y)))):=by
 show PCon prog 111 [encP p,.iptr true [encPs fr b]] _
 refine callV_of (fn:=Go.Proofs.Tryz.f111) (body:=_) tab_ok mixed rfl rfl (by decide) (by simp[Go.Proofs.Tryz.f111]) ?_
 conv=>whnf
 refine callV_pure (containsP_ok fr b p) ⟨.free (encPs_free _ _),.free (encP_free _),trivial⟩ ?_
 conv=>whnf
 exact(Ends.pA)
theorem uapart_ok (fr fr':Bool) (a b:List Prefix):PCon prog 62 [encPs fr a,encPs fr' b] (.bool (apartP a b)):=by
 refine callV_of (fn:=Go.Proofs.Tryz.f62) (body:=_) tab_ok mixed rfl rfl (by decide) (by simp[Go.Proofs.Tryz.f62]) ?_
 conv=>whnf
 refine callV_freeze (args':=[encPs fr a,.fn (.func 111) [] [.iptr true [encPs fr' b]]]) [0] (h':=[]) (LeH.nil (by omega) (fun _ _=>rfl) (one_none rfl)) ⟨.free (encPs_free _ _),.fnL trivial ⟨.fz9 (by simp) rfl (by intro v hv;obtain rfl:=List.mem_singleton.1 hv;exact encPs_free _ _),trivial⟩,trivial⟩ ?_
 refine callV_pure (containsFuncP_ok fr a 111 [.iptr true [encPs fr' b]] (fun x=>b.any (fun y=>decide (x=y))) (fun p=>apart1_ok fr' b p) (by intro v hv;obtain rfl:=List.mem_singleton.1 hv;exact .iptr (by intro v hv;obtain rfl:=List.mem_singleton.1 hv;exact encPs_free _ _))) ⟨.free (encPs_free _ _),.free (.fn (by simp) (by intro v hv;obtain rfl:=List.mem_singleton.1 hv;exact .iptr (by intro v hv;obtain rfl:=List.mem_singleton.1 hv;exact encPs_free _ _))),trivial⟩ ?_
 conv=>whnf
 exact(Ends.pA)
theorem rise_step {l:List Prefix} {i:Nat} (hc:i < l.length) (hz:riseOk (l.take i)) (h1:prefOk l[i]=true) (h2:∀h0:0 < i,pkey l[i - 1] < pkey l[i]):riseOk (l.take (i + 1)):=by
 intro j hj
 rw[List.length_take]at hj
 rcases Nat.lt_or_ge j i with h|h
 ·have:=hz j (by rw[List.length_take];omega)
  simpa using this
 ·obtain rfl:j=i:=by omega
  simpa using⟨h1,h2⟩
theorem rise_not {l:List Prefix} {i:Nat} (hc:i < l.length) (h:¬ (prefOk l[i]=true∧∀h0:0 < i,pkey l[i - 1] < pkey l[i])):riseP l=false:=by
 cases hr:riseP l with
 | false=>rfl
 | true=>exact absurd (riseP_iff.1 hr i hc) h
theorem refRise_ok (fr:Bool) (l:List Prefix):PCon prog 134 [encPs fr l] (.bool (riseP l)):=by
 refine callV_of (fn:=Go.Proofs.Tryz.f134) (body:=_) tab_ok mixed rfl rfl (by decide) (by simp[Go.Proofs.Tryz.f134]) ?_
 conv=>whnf
 refine vcg_loop tab_ok mixed (fun i:{i:Nat // i≤l.length∧riseOk (l.take i)}=>⟨[(0,encPs fr l),(3,cI i.1)],[],0⟩) (fun i=>l.length - i.1) ⟨0,by omega,fun j hj=>by simp at hj⟩ (Wk.of id [] ⟨.free (encPs_free _ _),.int_of rfl,trivial⟩ (LeH.nil (Nat.le_refl _) (fun b h=>by omega) (by simp))) (fun i=>?_)
 obtain⟨i,hi,hz⟩:=i
 conv=>whnf
 intro hl
 have hl:l.length≤maxLen:=by simpa[gd]using hl
 conv=>whnf
 split
 ·rename_i hc
  have hc:i < l.length:=by simpa using hc
  have hr:=rRight_ok l[i]
  conv=>whnf
  refine ixK (idxP hc) ?_
  conv=>whnf
  refine⟨_,[],fun h nx _=>pureV_pure hr ⟨.free (encP_free _),trivial⟩,by simp,?_⟩
  cases h1:prefOk l[i]with
  | false=>
   conv=>whnf
   refine⟨by kernel_rfl,?_⟩
   conv=>whnf
   exact(Ends.pure [] (by repeat' (first|exact True.intro|exact .bool_of (rise_not hc (by rw[h1];simp)).symm|exact .A|exact LeL.fr rfl|refine .tupL ?_|refine .aggL ?_|refine⟨?_,?_⟩)) (by simp))
  | true=>
  conv=>whnf
  cases h2:decide ((0:Int) < (i:Int))with
  | false=>
   have h0:i=0:=by simp at h2;omega
   conv=>whnf
   refine⟨by kernel_rfl,?_⟩
   conv=>whnf
   exact⟨⟨i + 1,by omega,rise_step hc hz h1 (fun h=>by omega)⟩,Wk.of id [] ⟨.free (encPs_free _ _),.int_of (wrap64_succ hc hl),trivial⟩ (LeH.nil (Nat.le_refl _) (fun b h=>by omega) (by simp)),by simp only;omega⟩
  | true=>
   have h0:0 < i:=by simp at h2;omega
   have hw:IntKind.i64.wrap ((i:Int) - 1)=((i - 1:Nat):Int):=by rw[wrap64 (by omega) (by have:maxLen=9223372036854775807:=rfl;omega)];omega
   have hcm:=refCompare_ok (l[i - 1]'(by omega)) l[i]
   conv=>whnf
   refine⟨rfl,_,⟨by rw[hw];omega,by rw[hw];exact idxP (by omega)⟩,?_⟩
   conv=>whnf
   refine ixK (idxP hc) ?_
   conv=>whnf
   refine⟨_,[],fun h nx _=>pureV_pure hcm ⟨.free (encP_free _),.free (encP_free _),trivial⟩,by simp,?_⟩
   conv=>whnf
   refine⟨by kernel_rfl,?_⟩
   conv=>whnf
   split
   ·rename_i h3
    have h3:¬ pkey l[i - 1] < pkey l[i]:=by rw[← cmpP_lt];simpa using h3
    conv=>whnf
    exact(Ends.pure [] (by repeat' (first|exact True.intro|exact .bool_of (rise_not hc (fun h=>h3 (h.2 h0))).symm|exact .A|exact LeL.fr rfl|refine .tupL ?_|refine .aggL ?_|refine⟨?_,?_⟩)) (by simp))
   ·rename_i h3
    have h3:pkey l[i - 1] < pkey l[i]:=by rw[← cmpP_lt];simpa using h3
    conv=>whnf
    exact⟨⟨i + 1,by omega,rise_step hc hz h1 (fun _=>h3)⟩,Wk.of id [] ⟨.free (encPs_free _ _),.int_of (wrap64_succ hc hl),trivial⟩ (LeH.nil (Nat.le_refl _) (fun b h=>by omega) (by simp)),by simp only;omega⟩
 ·rename_i hc
  have hc:i=l.length:=by simp at hc;omega
  subst hc
  rw[List.take_length]at hz
  conv=>whnf
  exact(Ends.pure [] (by repeat' (first|exact True.intro|exact .bool_of (riseP_iff.2 hz).symm|exact .A|exact LeL.fr rfl|refine .tupL ?_|refine .aggL ?_|refine⟨?_,?_⟩)) (by simp))
end
section
open Go.Proofs.Tryz (prog)
attribute [local irreducible] CallV RoundV aggK
structure Upd where
 gone:List Prefix
 new:List Prefix
 attrs:Attrs
deriving DecidableEq
def cellsU (fr:Bool) (u:Upd):List V:=encPs fr u.gone :: encPs fr u.new :: cellsA fr u.attrs
def encU (fr:Bool) (u:Upd):V:=.agg (cellsU fr u)
theorem cellsU_free (fr:Bool) (u:Upd):∀v∈cellsU fr u,Free v:=by
 intro v hv
 rcases List.mem_cons.1 hv with rfl|hv
 ·exact encPs_free _ _
 rcases List.mem_cons.1 hv with rfl|hv
 ·exact encPs_free _ _
 ·exact cellsA_free _ _ v hv
theorem encU_free (fr:Bool) (u:Upd):Free (encU fr u):=.agg (cellsU_free fr u)
theorem refApart_ok (fr fr':Bool) (a b:List Prefix):PCon prog 135 [encPs fr a,encPs fr' b] (.bool (apartP a b)):=by
 refine callV_of (fn:=Go.Proofs.Tryz.f135) (body:=_) tab_ok mixed rfl rfl (by decide) (by simp[Go.Proofs.Tryz.f135]) ?_
 conv=>whnf
 refine vcg_loop tab_ok mixed (fun i:{i:Nat // i≤a.length∧(a.take i).any (fun x=>b.any (fun y=>decide (x=y)))=false}=>⟨[(0,encPs fr a),(1,encPs fr' b),(5,cI i.1)],[],0⟩) (fun i=>a.length - i.1) ⟨0,by omega,by simp⟩ (Wk.of id [] ⟨.free (encPs_free _ _),.free (encPs_free _ _),.int_of rfl,trivial⟩ (LeH.nil (Nat.le_refl _) (fun b h=>by omega) (by simp))) (fun i=>?_)
 obtain⟨i,hi,hz⟩:=i
 conv=>whnf
 intro hl
 have hl:a.length≤maxLen:=by simpa[gd]using hl
 conv=>whnf
 split
 ·rename_i hc
  have hc:i < a.length:=by simpa using hc
  conv=>whnf
  refine vcg_loop tab_ok mixed (fun j:{j:Nat // j≤b.length∧(b.take j).any (fun y=>decide (a[i]=y))=false}=>⟨[(0,encPs fr a),(1,encPs fr' b),(5,cI i),(6,cI j.1)],[],0⟩) (fun j=>b.length - j.1) ⟨0,by omega,by simp⟩ (Wk.of id [] ⟨.free (encPs_free _ _),.free (encPs_free _ _),.int_of rfl,.int_of rfl,trivial⟩ (LeH.nil (Nat.le_refl _) (fun b h=>by omega) (by simp))) (fun j=>?_)
  obtain⟨j,hj,hy⟩:=j
  conv=>whnf
  intro hl2
  have hl2:b.length≤maxLen:=by simpa[gd]using hl2
  conv=>whnf
  split
  ·rename_i hd
   have hd:j < b.length:=by simpa using hd
   conv=>whnf
   refine ixK (idxP hc) ?_
   conv=>whnf
   refine ixK (idxP hd) ?_
   conv=>whnf
   refine eqlP a[i] b[j] ?_
   conv=>whnf
   refine⟨by kernel_rfl,?_⟩
   conv=>whnf
   split
   ·rename_i h1
    have h1:a[i]=b[j]:=by simpa using h1
    conv=>whnf
    have hany:a.any (fun x=>b.any (fun y=>decide (x=y)))=true:=List.any_eq_true.2 ⟨a[i],List.getElem_mem hc,List.any_eq_true.2 ⟨b[j],List.getElem_mem hd,by simp[h1]⟩⟩
    exact(Ends.pure [] (by repeat' (first|exact True.intro|exact .bool_of (by rw[apartP,hany];rfl)|exact .A|exact LeL.fr rfl|refine .tupL ?_|refine .aggL ?_|refine⟨?_,?_⟩)) (by simp))
   ·rename_i h1
    have h1:decide (a[i]=b[j])=false:=by simpa using h1
    conv=>whnf
    exact⟨⟨j + 1,by omega,any_none hd hy h1⟩,Wk.of id [] ⟨.free (encPs_free _ _),.free (encPs_free _ _),.int_of rfl,.int_of (wrap64_succ hd hl2),trivial⟩ (LeH.nil (Nat.le_refl _) (fun b h=>by omega) (by simp)),by simp only;omega⟩
  ·rename_i hd
   have hd:j=b.length:=by simp at hd;omega
   subst hd
   rw[List.take_length]at hy
   conv=>whnf
   exact⟨⟨i + 1,by omega,any_none hc hz hy⟩,Wk.of id [] ⟨.free (encPs_free _ _),.free (encPs_free _ _),.int_of (wrap64_succ hc hl),trivial⟩ (LeH.nil (Nat.le_refl _) (fun b h=>by omega) (by simp)),by simp only;omega⟩
 ·rename_i hc
  have hc:i=a.length:=by simp at hc;omega
  subst hc
  rw[List.take_length]at hz
  conv=>whnf
  exact(Ends.pure [] (by repeat' (first|exact True.intro|exact .bool_of (by rw[apartP,hz];rfl)|exact .A|exact LeL.fr rfl|refine .tupL ?_|refine .aggL ?_|refine⟨?_,?_⟩)) (by simp))
end
section
open Go.Proofs.Tryz (prog)
attribute [local irreducible] CallV RoundV aggK
theorem four20_ok (x:UInt32):PCon prog 213 [cW x] (encB true (fourB x)):=by
 refine callV_of (fn:=Go.Proofs.Tryz.f213) (body:=_) tab_ok mixed rfl rfl (by decide) (by simp[Go.Proofs.Tryz.f213]) ?_
 conv=>whnf
 refine⟨by decide,?_⟩
 conv=>whnf
 refine⟨by decide,?_⟩
 conv=>whnf
 refine⟨by decide,?_⟩
 conv=>whnf
 refine⟨by decide,?_⟩
 conv=>whnf
 refine⟨by decide,?_⟩
 conv=>whnf
 refine⟨by decide,?_⟩
 conv=>whnf
 have hx:=x.toNat_lt
 refine Ends.pure [0] (LeV.freeze_of (by simp) rfl (by simp) ?_ ?_) ?_
 ·intro r hr v hv
  simp at hr
  rcases hr with rfl|rfl|rfl|rfl<;>(simp at hv;subst hv;exact .int)
 ·have e:∀(n:Nat),((x.toNat:Int).tdiv n)=((x.toNat / n:Nat):Int):=fun n=>by rw[Int.tdiv_eq_ediv_of_nonneg (by omega)];rfl
  have e2:∀(n m:Nat),(((n:Nat):Int).tmod (m:Nat))=((n % m:Nat):Int):=fun n m=>by rw[Int.tmod_eq_emod_of_nonneg (by omega)];rfl
  have w:∀(n:Nat),n < 4294967296→IntKind.u32.wrap (n:Int)=n:=fun n hn=>by rw[wrap32];omega
  have e1:=e 16777216
  have e3:=e 65536
  have e4:=e 256
  simp only[Int.cast_ofNat_Int]at e1 e3 e4
  have d1:=w (x.toNat / 16777216) (by omega)
  have d2:=w (x.toNat / 65536) (by omega)
  have d3:=w (x.toNat / 256) (by omega)
  have m1:=e2 (x.toNat / 65536) 256
  have m2:=e2 (x.toNat / 256) 256
  have m3:=e2 x.toNat 256
  simp only[Int.cast_ofNat_Int]at m1 m2 m3
  rw[e1,e3,e4,d1,d2,d3,m1,m2,m3]
  simp[fourB,wrap8,UInt32.toNat_shiftRight,Nat.shiftRight_eq_div_pow]
 ·intro z hz
  obtain rfl:=List.mem_singleton.1 hz
  exact ne_none_of rfl
end
section
open Go.Proofs.Tryz (prog)
attribute [local irreducible] CallV RoundV aggK
instance {fr l}:FreeI (encPs fr l):=⟨⟨encPs_free fr l⟩⟩
instance {l}:FreeRI (rowsP l):=⟨⟨rowsP_free l⟩⟩
instance {fr u}:FreeI (encU fr u):=⟨⟨encU_free fr u⟩⟩
instance {fr u}:FreeLI (cellsU fr u):=⟨⟨cellsU_free fr u⟩⟩
def nP (p:Prefix):Nat:=(p.len.toNat + 7) / 8
def prefB (p:Prefix):List UInt8:=p.len :: (fourB p.addr).take (nP p)
def prefsB (l:List Prefix):List UInt8:=l.flatMap prefB
theorem prefsB_succ {l:List Prefix} {i:Nat} (h:i < l.length):prefsB (l.take (i + 1))=prefsB (l.take i)++ prefB l[i]:=by
 unfold prefsB
 rw[List.take_succ_eq_append_getElem h,List.flatMap_append,List.flatMap_cons,List.flatMap_nil,List.append_nil]
theorem prefB_len (p:Prefix):1≤(prefB p).length∧(prefB p).length≤5:=by
 simp[prefB,fourB]
 omega
theorem prefsB_len:∀l:List Prefix,(prefsB l).length≤5 * l.length
 | []=>by simp[prefsB]
 | p :: l=>by
  have:=prefsB_len l
  have h:=prefB_len p
  rw[prefsB,List.flatMap_cons,List.length_append,← prefsB,List.length_cons]
  omega
theorem prefsB_take (l:List Prefix) (i:Nat) (h:i≤l.length):(prefsB (l.take i)).length≤5 * l.length:=by
 have:=prefsB_len (l.take i)
 rw[List.length_take]at this
 omega
theorem nP_int (p:Prefix):(IntKind.i64.wrap ((IntKind.i64.wrap ((IntKind.i64.wrap (p.len.toNat:Int))+ 7)).tdiv 8))=(nP p:Int):=by
 have:=p.len.toNat_lt
 rw[wrap64 (n:=(p.len.toNat:Int)) (by omega) (by omega),wrap64 (n:=(p.len.toNat:Int)+ 7) (by omega) (by omega),Int.tdiv_eq_ediv_of_nonneg (by omega),wrap64 (by omega) (by omega),nP]
 omega
theorem nP_le {p:Prefix} (h:prefOk p=true):nP p≤4:=by
 simp only[prefOk,Bool.and_eq_true,decide_eq_true_eq]at h
 unfold nP
 omega
theorem ulaid_ok (fr:Bool) (l:List Prefix) (hb:l.length≤1000) (hr:∀p∈l,prefOk p=true):PCon prog 113 [encPs fr l] (encB true (prefsB l)):=by
 refine callV_of (fn:=Go.Proofs.Tryz.f113) (body:=_) tab_ok mixed rfl rfl (by decide) (by simp[Go.Proofs.Tryz.f113]) ?_
 conv=>whnf
 intro _
 conv=>whnf
 refine vcg_loop tab_ok mixed (fun i:{i:Nat // i≤l.length}=>⟨[(2,.osl 0 1 0 (prefsB (l.take i.1)).length),(5,encPs fr l),(6,cI l.length),(7,cI i.1)],[(0,some (.arr true false 5 1 (rowsB (prefsB (l.take i.1)))))],1⟩) (fun i=>l.length - i.1) ⟨0,by omega⟩ (Wk.i (by repeat' (first|exact LHa|exact .int_of (by simp)|exact .A|exact LeL.fr rfl|exact LHb|refine Or.inl ⟨by simp,_,rfl,?_⟩|exact Or.inr ⟨by simp,_,_,_,_,rfl⟩|refine⟨rfl,rfl,rfl,rfl,rfl,rfl,?_⟩|refine⟨?_,?_⟩)) (by omega)) (fun i=>?_)
 obtain⟨i,hi⟩:=i
 have hlen:=prefsB_take l i hi
 conv=>whnf
 split
 ·rename_i hc
  have hc:i < l.length:=by simpa using hc
  have hp:=hr l[i] (List.getElem_mem hc)
  have h4:=nP_le hp
  conv=>whnf
  refine ixK (idxP hc) ?_
  conv=>whnf
  refine⟨rfl,by simp,⟨rfl,rfl,rfl,rfl,by decide⟩,by simp[rowsB],⟨by simp[tab,tabOf,nth];omega,by simp;omega⟩,?_⟩
  conv=>whnf
  refine⟨_,[],fun h nx _=>pureV_pure (uhigh_ok _) ⟨.int_of rfl,.fr rfl,trivial⟩,by simp,?_⟩
  conv=>whnf
  refine⟨by decide,?_⟩
  conv=>whnf
  refine⟨rfl,⟨trivial,by rw[nP_int];omega,Nat.zero_le _,by rw[nP_int];simp[fourB];omega⟩,?_⟩
  conv=>whnf
  refine⟨⟨rfl,rfl,rfl,rfl,by decide⟩,by simp[rowsB],⟨by simp[tab,tabOf,nth,fourB];omega,by simp[fourB];omega⟩,?_⟩
  conv=>whnf
  refine⟨by kernel_rfl,?_⟩
  conv=>whnf
  exact⟨⟨i + 1,by omega⟩,(Wk.all (renOf [(0,4)]) [] (by repeat' (first|exact LHa|exact .int_of (wrap64_succ hc (by unfold maxLen;omega))|exact .osl_of rfl (by omega) (by rw[prefsB_succ hc,nP_int];simp[prefB,fourB];omega)|exact LeB.fr (by rw[prefsB_succ hc,nP_int];simp[prefB,rowsB,List.take_of_length_le]) id id|exact .A|exact LeL.fr rfl|exact LHb|refine Or.inl ⟨by simp,_,rfl,?_⟩|exact Or.inr ⟨by simp,_,_,_,_,rfl⟩|refine⟨rfl,rfl,rfl,rfl,rfl,rfl,?_⟩|refine⟨?_,?_⟩)) (show ∀b∈([0]:List Nat),∀b'∈([0]:List Nat),(renOf [(0,4)]) b=(renOf [(0,4)]) b'→b=b' by decide) (fun _ h=>by omega) (by omega) (by simp)),by simp only;omega⟩
 ·rename_i hc
  have hc:i=l.length:=by simp at hc;omega
  subst hc
  conv=>whnf
  exact Ends.pure [0] (LeV.freezeE (ys:=rowsB (prefsB l)) (by simp) rfl (by simp[rowsB]) (by simp[rowsB,List.take_of_length_le]) (rowsB_free _)) (one_none rfl)
theorem rlaid_ok (fr:Bool) (l:List Prefix) (hb:l.length≤1000) (hr:∀p∈l,prefOk p=true):PCon prog 169 [encPs fr l] (encB true (prefsB l)):=by
 refine callV_of (fn:=Go.Proofs.Tryz.f169) (body:=_) tab_ok mixed rfl rfl (by decide) (by simp[Go.Proofs.Tryz.f169]) ?_
 conv=>whnf
 refine vcg_loop tab_ok mixed (fun i:{i:Nat // i≤l.length}=>⟨[(0,encPs fr l),(3,.osl 0 1 0 (prefsB (l.take i.1)).length),(4,cI i.1)],[(0,some (.arr true false 5 1 (rowsB (prefsB (l.take i.1)))))],1⟩) (fun i=>l.length - i.1) ⟨0,by omega⟩ (Wk.i (by repeat' (first|exact LHa|exact .A|exact LeL.fr rfl|exact LHb|refine Or.inl ⟨by simp,_,rfl,?_⟩|exact Or.inr ⟨by simp,_,_,_,_,rfl⟩|refine⟨rfl,rfl,rfl,rfl,rfl,rfl,?_⟩|refine⟨?_,?_⟩)) (by omega)) (fun i=>?_)
 obtain⟨i,hi⟩:=i
 have hlen:=prefsB_take l i hi
 conv=>whnf
 intro _
 conv=>whnf
 split
 ·rename_i hc
  have hc:i < l.length:=by simpa using hc
  have hp:=hr l[i] (List.getElem_mem hc)
  have h4:=nP_le hp
  conv=>whnf
  refine ixK (idxP hc) ?_
  conv=>whnf
  refine⟨rfl,by simp,⟨rfl,rfl,rfl,rfl,by decide⟩,by simp[rowsB],⟨by simp[tab,tabOf,nth];omega,by simp;omega⟩,?_⟩
  conv=>whnf
  refine ixK (idxP hc) ?_
  conv=>whnf
  refine⟨_,[],fun h nx _=>pureV_pure (four20_ok _) ⟨.int_of rfl,trivial⟩,by simp,?_⟩
  conv=>whnf
  refine ixK (idxP hc) ?_
  conv=>whnf
  refine⟨by decide,?_⟩
  conv=>whnf
  refine⟨rfl,⟨trivial,by rw[nP_int];omega,Nat.zero_le _,by rw[nP_int];simp[fourB];omega⟩,?_⟩
  conv=>whnf
  refine⟨⟨rfl,rfl,rfl,rfl,by decide⟩,by simp[rowsB],⟨by simp[tab,tabOf,nth,fourB];omega,by simp[fourB];omega⟩,?_⟩
  conv=>whnf
  refine⟨by kernel_rfl,?_⟩
  conv=>whnf
  exact⟨⟨i + 1,by omega⟩,(Wk.all (renOf [(0,3)]) [] (by repeat' (first|exact LHa|exact .int_of (wrap64_succ hc (by unfold maxLen;omega))|exact .osl_of rfl (by omega) (by rw[prefsB_succ hc,nP_int];simp[prefB,fourB];omega)|exact LeB.fr (by rw[prefsB_succ hc,nP_int];simp[prefB,rowsB,List.take_of_length_le]) id id|exact .A|exact LeL.fr rfl|exact LHb|refine Or.inl ⟨by simp,_,rfl,?_⟩|exact Or.inr ⟨by simp,_,_,_,_,rfl⟩|refine⟨rfl,rfl,rfl,rfl,rfl,rfl,?_⟩|refine⟨?_,?_⟩)) (show ∀b∈([0]:List Nat),∀b'∈([0]:List Nat),(renOf [(0,3)]) b=(renOf [(0,3)]) b'→b=b' by decide) (fun _ h=>by omega) (by omega) (by simp)),by simp only;omega⟩
 ·rename_i hc
  have hc:i=l.length:=by simp at hc;omega
  subst hc
  conv=>whnf
  exact Ends.pure [0] (LeV.freezeE (ys:=rowsB (prefsB l)) (by simp) rfl (by simp[rowsB]) (by simp[rowsB,List.take_of_length_le]) (rowsB_free _)) (one_none rfl)
end
section
open Go.Proofs.Tryz (prog)
attribute [local irreducible] CallV RoundV aggK
abbrev rowsC (ls:List (List UInt8)):List (List V):=ls.map fun l=>[encB false l]
def catV (fr:Bool) (ls:List (List UInt8)):V:=.sl fr 1 (rowsC ls)
theorem rowsC_all (ls:List (List UInt8)):∀x∈rowsC ls,∀v∈x,Free v∧Cold v:=by
 intro x hx v hv
 obtain⟨l,_,rfl⟩:=List.mem_map.1 hx
 simp at hv;subst hv;exact⟨encB_free _ _,encB_cold _⟩
theorem catV_free (fr:Bool) (ls:List (List UInt8)):Free (catV fr ls):=.sl fun x hx v hv=>(rowsC_all ls x hx v hv).1
theorem catV_cold (ls:List (List UInt8)):Cold (catV false ls):=.sl fun x hx v hv=>(rowsC_all ls x hx v hv).2
instance {fr ls}:FreeI (catV fr ls):=⟨⟨catV_free fr ls⟩⟩
theorem idxC {ls:List (List UInt8)} {i:Nat} (h:i < ls.length):(rowsC ls)[(i:Int).toNat]? = some [encB false ls[i]]:=by simp[rowsC,h]
theorem flat_succ {α:Type} {ls:List (List α)} {i:Nat} (h:i < ls.length):(ls.take (i + 1)).flatten=(ls.take i).flatten ++ ls[i]:=by
 rw[List.take_succ_eq_append_getElem h,List.flatten_append];simp
theorem flat_le {α:Type} (ls:List (List α)) (i:Nat):(ls.take i).flatten.length≤ls.flatten.length:=by
 conv=>rhs;rw[← List.take_append_drop i ls,List.flatten_append,List.length_append]
 omega
structure Cat (ls:List (List UInt8)) where
 i:Nat
 rows:List (List V)
 le:i≤ls.length
 free:∀x∈rows,∀v∈x,Free v
 len:(ls.take i).flatten.length≤rows.length
 eq:rows.take (ls.take i).flatten.length=rowsB (ls.take i).flatten
theorem zeros8_free (n:Nat):∀r∈List.replicate n [V.int .u8 0],∀v∈r,Free v:=by
 intro r hr v hv
 rw[List.eq_of_mem_replicate hr]at hv;simp at hv;subst hv;exact .int
theorem concatB_ok (ls:List (List UInt8)) (hl:ls.length≤1000) (hs:ls.flatten.length≤1000000):PCon prog 115 [catV false ls] (encB true ls.flatten):=by
 have hf:=flat_le ls
 refine callV_of (fn:=Go.Proofs.Tryz.f115) (body:=_) tab_ok mixed rfl rfl (by decide) (by simp[Go.Proofs.Tryz.f115]) ?_
 conv=>whnf
 intro _
 conv=>whnf
 refine vcg_loop tab_ok mixed (fun i:{i:Nat // i≤ls.length}=>⟨[(0,catV false ls),(3,cI (ls.take i.1).flatten.length),(9,catV false ls),(10,cI ls.length),(11,cI i.1)],[],0⟩) (fun i=>ls.length - i.1) ⟨0,by omega⟩ (Wk.i (by repeat' (first|exact LHa|exact .int_of (by simp)|exact .int_of rfl|exact .A|exact LeL.fr rfl|exact LHb|refine Or.inl ⟨by simp,_,rfl,?_⟩|exact Or.inr ⟨by simp,_,_,_,_,rfl⟩|refine⟨rfl,rfl,rfl,rfl,rfl,rfl,?_⟩|refine⟨?_,?_⟩)) (by omega)) (fun i=>?_)
 obtain⟨i,hi⟩:=i
 have hfi:=hf i
 conv=>whnf
 split
 ·rename_i hc
  have hc:i < ls.length:=by simpa using hc
  have hn:(ls.take (i + 1)).flatten.length=(ls.take i).flatten.length + ls[i].length:=by rw[flat_succ hc,List.length_append]
  have hf1:=hf (i + 1)
  have hw:IntKind.i64.wrap (((ls.take i).flatten.length:Int)+ ((List.map (fun x=>[V.int .u8 x.toNat]) ls[i]).length:Nat))=((ls.take (i + 1)).flatten.length:Nat):=by
   rw[List.length_map,hn,wrap64 (by omega) (by omega)];omega
  conv=>whnf
  refine ixK (idxC hc) ?_
  conv=>whnf
  intro _
  conv=>whnf
  split
  ·rename_i h
   exfalso
   rw[hw]at h
   simp at h
   omega
  conv=>whnf
  exact⟨⟨i + 1,by omega⟩,(Wk.i (by repeat' (first|exact LHa|exact .int_of hw|exact .int_of (wrap64_succ hc (by unfold maxLen;omega))|exact .A|exact LeL.fr rfl|exact LHb|refine Or.inl ⟨by simp,_,rfl,?_⟩|exact Or.inr ⟨by simp,_,_,_,_,rfl⟩|refine⟨rfl,rfl,rfl,rfl,rfl,rfl,?_⟩|refine⟨?_,?_⟩)) (by omega)),by simp only;omega⟩
 rename_i hc
 have hc:i=ls.length:=by simp at hc;omega
 subst hc
 simp only[List.take_length]
 conv=>whnf
 refine callV_of (fn:=Go.Proofs.Tryz.f157) (body:=_) tab_ok mixed rfl rfl (by decide) (by simp[Go.Proofs.Tryz.f157]) ?_
 conv=>whnf
 have hn:IntKind.i64.wrap ((ls.flatten.length:Int) - IntKind.i64.wrap (0 - 0))=(ls.flatten.length:Nat):=by
  rw[show IntKind.i64.wrap (0 - 0)=0 by decide,wrap64 (by omega) (by omega)];omega
 split
 ·rename_i hg
  conv=>whnf
  refine⟨⟨trivial,by simp,rfl,rfl⟩,?_⟩
  conv=>whnf
  refine⟨by rw[hn];exact⟨by decide,by omega,by simp only[Int.toNat_natCast];show _ * 1≤_;omega,by simp only[Int.toNat_natCast];omega⟩,?_⟩
  conv=>whnf
  refine⟨rfl,.own,⟨trivial,by simp,by simp,by simp⟩,?_⟩
  conv=>whnf
  refine⟨_,_,_,Ends.here,?_⟩
  conv=>whnf
  intro _
  conv=>whnf
  refine vcg_loop tab_ok mixed (fun k:Cat ls=>⟨[(6,.osl 0 1 0 (ls.take k.i).flatten.length),(25,catV false ls),(26,cI ls.length),(27,cI k.i)],[(0,some (.arr true false 5 1 k.rows))],1⟩) (fun k=>ls.length - k.i) ⟨0,List.replicate ls.flatten.length [.int .u8 0],by omega,zeros8_free _,by simp,by simp⟩ (Wk.i (by repeat' (first|exact LHa|exact LeB.arrE (by simp only[hn,Int.toNat_natCast]) (by exact zeros8_free _) id id|exact .int_of (by simp)|exact .osl_of rfl (by omega) (by simp)|exact .A|exact LeL.fr rfl|exact LHb|refine Or.inl ⟨by simp,_,rfl,?_⟩|exact Or.inr ⟨by simp,_,_,_,_,rfl⟩|refine⟨rfl,rfl,rfl,rfl,rfl,rfl,?_⟩|refine⟨?_,?_⟩)) (by omega)) (fun k=>?_)
  obtain⟨i,rows,hi,hfr,hln,heq⟩:=k
  have hfi:=hf i
  conv=>whnf
  split
  ·rename_i hc
   have hc:i < ls.length:=by simpa using hc
   have hn':(ls.take (i + 1)).flatten.length=(ls.take i).flatten.length + ls[i].length:=by rw[flat_succ hc,List.length_append]
   have hf1:=hf (i + 1)
   conv=>whnf
   refine ixK (idxC hc) ?_
   conv=>whnf
   refine⟨⟨rfl,rfl,rfl,rfl,by decide⟩,hln,⟨by simp only[List.length_map];show _ * 1≤_;omega,by simp only[List.length_map];omega⟩,?_⟩
   conv=>whnf
   exact⟨⟨i + 1,rowsB (ls.take (i + 1)).flatten,by omega,rowsB_free _,Nat.le_of_eq (List.length_map _).symm,List.take_of_length_le (Nat.le_of_eq (List.length_map _))⟩,(Wk.all (renOf [(0,1)]) [] (by repeat' (first|exact LHa|exact .int_of (wrap64_succ hc (by unfold maxLen;omega))|exact .osl_of rfl (by omega) (by simp only[List.length_map];exact hn'.symm)|exact LeB.arrE (show List.take (ls.take i).flatten.length rows ++ rowsB ls[i]=rowsB (ls.take (i + 1)).flatten by rw[heq,flat_succ hc];simp only[rowsB,List.map_append]) (show ∀x∈List.take (ls.take i).flatten.length rows ++ rowsB ls[i],∀v∈x,Free v by rw[heq,← List.map_append];exact rowsB_free _) id id|exact .A|exact LeL.fr rfl|exact LHb|refine Or.inl ⟨by simp,_,rfl,?_⟩|exact Or.inr ⟨by simp,_,_,_,_,rfl⟩|refine⟨rfl,rfl,rfl,rfl,rfl,rfl,?_⟩|refine⟨?_,?_⟩)) (show ∀b∈([0]:List Nat),∀b'∈([0]:List Nat),(renOf [(0,1)]) b=(renOf [(0,1)]) b'→b=b' by decide) (fun _ h=>by omega) (by omega) (by simp)),by simp only;omega⟩
  ·rename_i hc
   have hc:i=ls.length:=by simp at hc;omega
   subst hc
   rw[List.take_length]at heq hln
   conv=>whnf
   exact Ends.pure [0] (LeV.freezeE (ys:=rowsB ls.flatten) (by simp) rfl (show 0 + (ls.take ls.length).flatten.length≤rows.length by rw[List.take_length,Nat.zero_add];exact hln) (show((rows.drop 0).take (ls.take ls.length).flatten.length)=_ by rw[List.drop_zero,List.take_length];exact heq) (rowsB_free _)) (one_none rfl)
 ·rename_i hg
  have h0:ls.flatten.length=0:=by have hg:=of_decide_eq_false hg;rw[hn]at hg;omega
  conv=>whnf
  refine⟨_,_,_,Ends.here,?_⟩
  conv=>whnf
  intro _
  conv=>whnf
  refine vcg_loop tab_ok mixed (fun k:Cat ls=>⟨[(6,.osl 0 1 0 (ls.take k.i).flatten.length),(25,catV false ls),(26,cI ls.length),(27,cI k.i)],[(0,some (.arr true false 5 1 k.rows))],1⟩) (fun k=>ls.length - k.i) ⟨0,[],by omega,by simp,by simp,by simp⟩ (Wk.i (by repeat' (first|exact LHa|exact LeB.fr rfl id id|exact .int_of (by simp)|exact .osl_of rfl (by omega) (by simp)|exact .A|exact LeL.fr rfl|exact LHb|refine Or.inl ⟨by simp,_,rfl,?_⟩|exact Or.inr ⟨by simp,_,_,_,_,rfl⟩|refine⟨rfl,rfl,rfl,rfl,rfl,rfl,?_⟩|refine⟨?_,?_⟩)) (by omega)) (fun k=>?_)
  obtain⟨i,rows,hi,hfr,hln,heq⟩:=k
  have hfi:=hf i
  conv=>whnf
  split
  ·rename_i hc
   have hc:i < ls.length:=by simpa using hc
   have hn':(ls.take (i + 1)).flatten.length=(ls.take i).flatten.length + ls[i].length:=by rw[flat_succ hc,List.length_append]
   have hf1:=hf (i + 1)
   conv=>whnf
   refine ixK (idxC hc) ?_
   conv=>whnf
   refine⟨⟨rfl,rfl,rfl,rfl,by decide⟩,hln,⟨by simp only[List.length_map];show _ * 1≤_;omega,by simp only[List.length_map];omega⟩,?_⟩
   conv=>whnf
   exact⟨⟨i + 1,rowsB (ls.take (i + 1)).flatten,by omega,rowsB_free _,Nat.le_of_eq (List.length_map _).symm,List.take_of_length_le (Nat.le_of_eq (List.length_map _))⟩,(Wk.all (renOf [(0,1)]) [] (by repeat' (first|exact LHa|exact .int_of (wrap64_succ hc (by unfold maxLen;omega))|exact .osl_of rfl (by omega) (by simp only[List.length_map];exact hn'.symm)|exact LeB.arrE (show List.take (ls.take i).flatten.length rows ++ rowsB ls[i]=rowsB (ls.take (i + 1)).flatten by rw[heq,flat_succ hc];simp only[rowsB,List.map_append]) (show ∀x∈List.take (ls.take i).flatten.length rows ++ rowsB ls[i],∀v∈x,Free v by rw[heq,← List.map_append];exact rowsB_free _) id id|exact .A|exact LeL.fr rfl|exact LHb|refine Or.inl ⟨by simp,_,rfl,?_⟩|exact Or.inr ⟨by simp,_,_,_,_,rfl⟩|refine⟨rfl,rfl,rfl,rfl,rfl,rfl,?_⟩|refine⟨?_,?_⟩)) (show ∀b∈([0]:List Nat),∀b'∈([0]:List Nat),(renOf [(0,1)]) b=(renOf [(0,1)]) b'→b=b' by decide) (fun _ h=>by omega) (by omega) (by simp)),by simp only;omega⟩
  ·rename_i hc
   have hc:i=ls.length:=by simp at hc;omega
   subst hc
   rw[List.take_length]at heq hln
   conv=>whnf
   exact Ends.pure [0] (LeV.freezeE (ys:=rowsB ls.flatten) (by simp) rfl (show 0 + (ls.take ls.length).flatten.length≤rows.length by rw[List.take_length,Nat.zero_add];exact hln) (show((rows.drop 0).take (ls.take ls.length).flatten.length)=_ by rw[List.drop_zero,List.take_length];exact heq) (rowsB_free _)) (one_none rfl)
end
section
open Go.Proofs.Tryz (prog)
attribute [local irreducible] CallV RoundV aggK
def gB (u:Upd):List UInt8:=prefsB u.gone
def aA (a:Attrs):List UInt8:=if rightA a then rawP a 6 else []
theorem rawA_ok (fr:Bool) (a:Attrs) (hf:fewA a=true):PCon prog 114 [encA fr a] (.tup [encB true (aA a),.int .i64 (checkA a)]):=raw_ok fr a hf
def aB (u:Upd):List UInt8:=aA u.attrs
def partsU (u:Upd):List (List UInt8):=[twoB (gB u).length,gB u,twoB (aB u).length,aB u,prefsB u.new]
def bodyB (u:Upd):List UInt8:=(partsU u).flatten
def okPs (l:List Prefix):Prop:=∀p∈l,prefOk p=true
structure Small (u:Upd):Prop where
 gone:u.gone.length≤1000
 new:u.new.length≤1000
 few:fewA u.attrs=true
theorem aB_len {u:Upd} (h:fewA u.attrs=true):(aB u).length≤20000:=by
 unfold aB aA
 split
 ·have:=rawA_len h
  rw[rawP_eq];exact this
 ·simp
theorem gB_len {u:Upd} (h:u.gone.length≤1000):(gB u).length≤5000:=by
 have:=prefsB_len u.gone
 unfold gB;omega
theorem bodyB_len {u:Upd} (h:Small u):(bodyB u).length≤100000:=by
 have h1:=aB_len h.few
 have h2:=gB_len h.gone
 have h3:=prefsB_len u.new
 have h4:=h.new
 simp only[bodyB,partsU,List.flatten_cons,List.flatten_nil,List.length_append,List.append_nil,twoB,List.length_cons,List.length_nil]
 omega
theorem less_encB {fr:Bool} {l:List UInt8}:Less (encB fr l) (encB false l):=Less.sl (by simp) rfl (by
 intro j v v' h1 h2
 rw[h1]at h2;cases h2;exact .refl _)
theorem less_catV {ls:List (List UInt8)}:Less (.sl false 1 (ls.map fun l=>[encB true l])) (catV false ls):=Less.sl id (by simp) (by
 intro j v v' h1 h2
 rw[flat1]at h1 h2
 simp only[List.getElem?_map,Option.map_eq_some_iff]at h1 h2
 obtain⟨x,hx,rfl⟩:=h1
 obtain⟨y,hy,rfl⟩:=h2
 rw[hx]at hy;cases hy
 exact less_encB)
theorem rowsT_free (ls:List (List UInt8)):∀x∈(ls.map fun l=>[encB true l]),∀v∈x,Free v:=by
 intro x hx v hv
 obtain⟨l,_,rfl⟩:=List.mem_map.1 hx
 simp at hv;subst hv;exact encB_free _ _
theorem uraw_ok (fr:Bool) (u:Upd) (hs:Small u) (hg:okPs u.gone) (hn:okPs u.new):PCon prog 63 [encU fr u] (encB true (bodyB u)):=by
 have h1:=aB_len hs.few
 have h2:=gB_len hs.gone
 have h3:=bodyB_len hs
 have ca:=concatB_ok (partsU u) (by simp[partsU]) (by rw[← bodyB];omega)
 refine callV_of (fn:=Go.Proofs.Tryz.f63) (body:=_) tab_ok mixed rfl rfl (by decide) (by simp[Go.Proofs.Tryz.f63]) ?_
 conv=>whnf
 refine callV_pure (ulaid_ok fr u.gone hs.gone hg) ⟨.fr rfl,trivial⟩ ?_
 conv=>whnf
 refine callV_pure (rawA_ok fr u.attrs hs.few) ⟨.fr rfl,trivial⟩ ?_
 conv=>whnf
 refine⟨_,[],fun h nx _=>pureV_pure (uhighI_ok (gB u).length (by omega)) ⟨.int_of (by simp[gB]),.fr rfl,trivial⟩,by simp,?_⟩
 conv=>whnf
 refine⟨_,[],fun h nx _=>pureV_pure (uhighI_ok (aB u).length (by omega)) ⟨.int_of (by simp[aB]),.fr rfl,trivial⟩,by simp,?_⟩
 conv=>whnf
 refine⟨_,[],fun h nx _=>pureV_pure (ulaid_ok fr u.new hs.new hn) ⟨.fr rfl,trivial⟩,by simp,?_⟩
 conv=>whnf
 refine⟨encB true (bodyB u),[(1,some (.arr true true 127 1 ((partsU u).map fun l=>[encB true l])))],fun h nx hrd=>?_,?_,?_⟩
 ·have hb:=hrd 1 _ (List.mem_singleton.2 rfl)
  exact pureV_lend [1] ca ⟨LeV.less (LeV.fresh_off (LeV.freeze_of (ys:=(partsU u).map fun l=>[encB true l]) (by simp) hb (by simp[partsU]) (rowsT_free _) rfl)) less_catV,trivial⟩ (by intro v hv;obtain rfl:=List.mem_singleton.1 hv;exact catV_cold _) (one_none hb) (encB_fresh _)
 ·intro b ob hm
  obtain⟨rfl,rfl⟩:b=1∧ob=_:=by simpa using hm
  rfl
 conv=>whnf
 refine⟨by kernel_rfl,?_⟩
 conv=>whnf
 exact(Ends.pA)
theorem two20_own (n:Nat) (hn:n < 65536):OCon prog 171 [cI n] true true 5 1 2 (rowsB (twoB n)):=by
 refine callV_of (fn:=Go.Proofs.Tryz.f171) (body:=_) tab_ok mixed rfl rfl (by decide) (by simp[Go.Proofs.Tryz.f171]) ?_
 conv=>whnf
 refine⟨by decide,?_⟩
 conv=>whnf
 refine⟨by decide,?_⟩
 conv=>whnf
 refine own1 (bs:=twoB n) rfl ?_ rfl
 have e1:((n:Int).tdiv 256)=((n / 256:Nat):Int):=by rw[Int.tdiv_eq_ediv_of_nonneg (by omega)];rfl
 have e2:((n:Int).tmod 256)=((n % 256:Nat):Int):=by rw[Int.tmod_eq_emod_of_nonneg (by omega)];rfl
 rw[e1,e2]
 simp only[twoB,rowsB,List.map_cons,List.map_nil]
 rw[show IntKind.i64.wrap ((n / 256:Nat):Int)=((n / 256:Nat):Int)by rw[wrap64 (by omega) (by omega)],u8_nat,u8_nat]
 have:UInt8.ofNat (n % 256)=UInt8.ofNat n:=by apply UInt8.toNat_inj.1;simp
 rw[this]
theorem cI_cold (n:Nat):∀v∈[cI n],Cold v:=by
 intro v hv
 obtain rfl:=List.mem_singleton.1 hv
 exact .int
theorem bytes_ok {n:Nat} (h:n≤100000):n * (tab 5).bytes≤140737488355328∧n≤140737488355328:=⟨by show n * 1≤_;omega,by omega⟩
theorem twoB_len (n:Nat):(twoB n).length=2:=rfl
theorem rraw_own (fr:Bool) (u:Upd) (hs:Small u) (hg:okPs u.gone) (hn:okPs u.new) (h0:u.new=[]→rightA u.attrs=false) (hr:u.new ≠ []→rightA u.attrs=true):OCon prog 136 [encU fr u] true false 5 1 (bodyB u).length (rowsB (bodyB u)):=by
 have h1:=aB_len hs.few
 have h2:=gB_len hs.gone
 have h3:=bodyB_len hs
 refine callV_of (fn:=Go.Proofs.Tryz.f136) (body:=_) tab_ok mixed rfl rfl (by decide) (by simp[Go.Proofs.Tryz.f136]) ?_
 conv=>whnf
 refine callV_pure (rlaid_ok fr u.gone hs.gone hg) ⟨.fr rfl,trivial⟩ ?_
 conv=>whnf
 intro _
 conv=>whnf
 have hg2:(gB u).length < 65536:=by omega
 have hP:=prefsB_len u.new
 have hnl:=hs.new
 have hgl:(prefsB u.gone).length≤5000:=h2
 split
 ·rename_i hc
  have hne:u.new ≠ []:=by intro e;rw[e]at hc;simp at hc
  have ea:aB u=rawA u.attrs:=by rw[aB,aA,if_pos (hr hne),rawP_eq]
  have rr:=ref_raw_ok fr u.attrs hs.few
  rw[← ea]at rr
  conv=>whnf
  refine callV_pure rr ⟨.fr rfl,trivial⟩ ?_
  conv=>whnf
  refine fun(_:gd none _)=>?_
  conv=>whnf
  refine callV_own [] (two20_own (gB u).length hg2) ⟨.int_of (by simp[gB]),trivial⟩ (cI_cold _) (by simp) (rowsB_ff _) ?_
  conv=>whnf
  refine⟨⟨rfl,rfl,rfl,rfl,by decide⟩,(by simp[twoB_len];try omega),bytes_ok (by simp[twoB_len];omega),?_⟩
  conv=>whnf
  try refine fun(_:gd none _)=>?_
  conv=>whnf
  refine callV_own [] (two20_own (aB u).length (by omega)) ⟨.int_of (by simp[ea]),trivial⟩ (cI_cold _) (by simp) (rowsB_ff _) ?_
  conv=>whnf
  refine⟨rfl,by simp[twoB_len],⟨rfl,rfl,rfl,rfl,by decide⟩,(by simp[twoB_len];try omega),bytes_ok (by simp[twoB_len];omega),?_⟩
  conv=>whnf
  refine⟨⟨rfl,rfl,rfl,rfl,by decide⟩,(by simp[twoB_len];try omega),bytes_ok (by simp[twoB_len];omega),?_⟩
  conv=>whnf
  refine callV_pure (rlaid_ok fr u.new hs.new hn) ⟨.fr rfl,trivial⟩ ?_
  conv=>whnf
  refine⟨⟨rfl,rfl,rfl,rfl,by decide⟩,(by simp[twoB_len];try omega),bytes_ok (by simp[twoB_len];omega),?_⟩
  conv=>whnf
  exact own1 (bs:=bodyB u) rfl (by simp(disch:=(simp[twoB_len,rowsB]<;>omega)) only[rowsB,List.take_of_length_le,List.length_map,List.drop_zero];simp[bodyB,partsU,gB,ea]) (by simp[bodyB,partsU,gB,ea,twoB_len];try omega)
 ·rename_i hc
  have hne:u.new=[]:=by simpa using hc
  have ea:aB u=[]:=by rw[aB,aA,if_neg (by simp[h0 hne])]
  conv=>whnf
  refine fun(_:gd none _)=>?_
  conv=>whnf
  refine callV_own [] (two20_own (gB u).length hg2) ⟨.int_of (by simp[gB]),trivial⟩ (cI_cold _) (by simp) (rowsB_ff _) ?_
  conv=>whnf
  refine⟨⟨rfl,rfl,rfl,rfl,by decide⟩,(by simp[twoB_len];try omega),bytes_ok (by simp[twoB_len];omega),?_⟩
  conv=>whnf
  try refine fun(_:gd none _)=>?_
  conv=>whnf
  refine callV_own [] (two20_own (aB u).length (by omega)) ⟨.int_of (by simp[ea]),trivial⟩ (cI_cold _) (by simp) (rowsB_ff _) ?_
  conv=>whnf
  refine⟨rfl,by simp[twoB_len],⟨rfl,rfl,rfl,rfl,by decide⟩,(by simp[twoB_len];try omega),bytes_ok (by simp[twoB_len];omega),?_⟩
  conv=>whnf
  refine⟨_,⟨rfl,rfl,rfl,rfl,by decide⟩,(by simp[twoB_len];try omega),bytes_ok (by simp[twoB_len];omega),?_⟩
  conv=>whnf
  refine callV_pure (rlaid_ok fr u.new hs.new hn) ⟨.fr rfl,trivial⟩ ?_
  conv=>whnf
  refine⟨⟨rfl,rfl,rfl,rfl,by decide⟩,(by simp[twoB_len];try omega),bytes_ok (by simp[twoB_len];omega),?_⟩
  conv=>whnf
  exact own1 (bs:=bodyB u) rfl (by simp(disch:=(simp[twoB_len,rowsB]<;>omega)) only[rowsB,List.take_of_length_le,List.length_map,List.drop_zero];simp[bodyB,partsU,gB,ea]) (by simp[bodyB,partsU,gB,ea,twoB_len];try omega)
end
section
open Go.Proofs.Tryz (prog)
attribute [local irreducible] CallV RoundV aggK
def saidU (u:Upd):Bool:=if u.new=[]then sameA u.attrs noA else rightA u.attrs
def mayU (u:Upd):Bool:=riseP u.gone && riseP u.new && apartP u.gone u.new && saidU u
def checkU (u:Upd):Int:=if mayU u then(if 493 < (bodyB u).length then 3 else 0)else 2
theorem okPs_rise {l:List Prefix} (h:riseP l=true):okPs l:=fun p hp=>by
 obtain⟨j,hj,rfl⟩:=List.getElem_of_mem hp
 exact(riseP_iff.1 h j hj).1
theorem mayU_out {u:Upd} (h:mayU u=true):riseP u.gone=true∧riseP u.new=true∧apartP u.gone u.new=true∧saidU u=true:=by
 simp only[mayU,Bool.and_eq_true]at h
 exact⟨h.1.1.1,h.1.1.2,h.1.2,h.2⟩
theorem noA_right:rightA noA=false:=by decide
theorem saidU_nil {u:Upd} (h0:u.new=[]) (h:saidU u=true):rightA u.attrs=false:=by
 simp only[saidU,if_pos h0,sameA,decide_eq_true_eq]at h
 rw[h];exact noA_right
theorem saidU_some {u:Upd} (h0:u.new ≠ []) (h:saidU u=true):rightA u.attrs=true:=by
 simpa only[saidU,if_neg h0]using h
theorem ucheck_ok (fr:Bool) (u:Upd) (hs:Small u):PCon prog 29 [encU fr u] (.int .i64 (checkU u)):=by
 have c1:=urise_ok fr u.gone hs.gone
 have c2:=urise_ok fr u.new hs.new
 have c3:=uapart_ok fr fr u.gone u.new
 refine callV_of (fn:=Go.Proofs.Tryz.f29) (body:=_) tab_ok mixed rfl rfl (by decide) (by simp[Go.Proofs.Tryz.f29]) ?_
 conv=>whnf
 refine callV_pure (same_ok fr true u.attrs noA) ⟨.fr rfl,.noA,trivial⟩ ?_
 by_cases hn:u.new=[]
 ·have hlen:u.new.length=0:=by rw[hn];rfl
  cases hsame:sameA u.attrs noA with
  | false=>
   have hsd:saidU u=false:=by simp[saidU,hn,hsame]
   conv=>whnf
   refine fun(_:gd none _)=>?_
   conv=>whnf
   split
   ·rename_i hc;exfalso;simp[hn]at hc
   conv=>whnf
   refine callV_pure c1 ⟨.fr rfl,trivial⟩ ?_
   cases h1:riseP u.gone with
   | false=>
    conv=>whnf
    exact(Ends.pure [] (by repeat' (first|exact True.intro|exact .int_of (by simp[checkU,mayU,h1])|exact .A|exact LeL.fr rfl|refine .tupL ?_|refine .aggL ?_|refine⟨?_,?_⟩)) (by simp))
   | true=>
    conv=>whnf
    refine callV_pure c2 ⟨.fr rfl,trivial⟩ ?_
    cases h2:riseP u.new with
    | false=>
     conv=>whnf
     exact(Ends.pure [] (by repeat' (first|exact True.intro|exact .int_of (by simp[checkU,mayU,h2])|exact .A|exact LeL.fr rfl|refine .tupL ?_|refine .aggL ?_|refine⟨?_,?_⟩)) (by simp))
    | true=>
     conv=>whnf
     refine callV_pure c3 ⟨.fr rfl,.fr rfl,trivial⟩ ?_
     cases h3:apartP u.gone u.new with
     | false=>
      conv=>whnf
      exact(Ends.pure [] (by repeat' (first|exact True.intro|exact .int_of (by simp[checkU,mayU,h3])|exact .A|exact LeL.fr rfl|refine .tupL ?_|refine .aggL ?_|refine⟨?_,?_⟩)) (by simp))
     | true=>
      conv=>whnf
      exact(Ends.pure [] (by repeat' (first|exact True.intro|exact .int_of (by simp[checkU,mayU,hsd])|exact .A|exact LeL.fr rfl|refine .tupL ?_|refine .aggL ?_|refine⟨?_,?_⟩)) (by simp))
  | true=>
   have hsd:saidU u=true:=by simp[saidU,hn,hsame]
   conv=>whnf
   refine fun(_:gd none _)=>?_
   conv=>whnf
   split
   ·rename_i hc;exfalso;simp[hn]at hc
   conv=>whnf
   refine callV_pure c1 ⟨.fr rfl,trivial⟩ ?_
   cases h1:riseP u.gone with
   | false=>
    conv=>whnf
    exact(Ends.pure [] (by repeat' (first|exact True.intro|exact .int_of (by simp[checkU,mayU,h1])|exact .A|exact LeL.fr rfl|refine .tupL ?_|refine .aggL ?_|refine⟨?_,?_⟩)) (by simp))
   | true=>
    conv=>whnf
    refine callV_pure c2 ⟨.fr rfl,trivial⟩ ?_
    cases h2:riseP u.new with
    | false=>
     conv=>whnf
     exact(Ends.pure [] (by repeat' (first|exact True.intro|exact .int_of (by simp[checkU,mayU,h2])|exact .A|exact LeL.fr rfl|refine .tupL ?_|refine .aggL ?_|refine⟨?_,?_⟩)) (by simp))
    | true=>
     conv=>whnf
     refine callV_pure c3 ⟨.fr rfl,.fr rfl,trivial⟩ ?_
     cases h3:apartP u.gone u.new with
     | false=>
      conv=>whnf
      exact(Ends.pure [] (by repeat' (first|exact True.intro|exact .int_of (by simp[checkU,mayU,h3])|exact .A|exact LeL.fr rfl|refine .tupL ?_|refine .aggL ?_|refine⟨?_,?_⟩)) (by simp))
     | true=>
      conv=>whnf
      refine callV_pure (uraw_ok fr u hs (okPs_rise h1) (okPs_rise h2)) ⟨.fr rfl,trivial⟩ ?_
      conv=>whnf
      refine fun(_:gd none _)=>?_
      conv=>whnf
      split
      ·rename_i hb
       have hb:493 < (bodyB u).length:=by have:=of_decide_eq_true hb;simp only[List.length_map]at this;omega
       conv=>whnf
       exact(Ends.pure [] (by repeat' (first|exact True.intro|exact .int_of (by simp[checkU,mayU,hsd,h1,h2,h3,hb])|exact .A|exact LeL.fr rfl|refine .tupL ?_|refine .aggL ?_|refine⟨?_,?_⟩)) (by simp))
      ·rename_i hb
       have hb:¬ 493 < (bodyB u).length:=by have:=of_decide_eq_false hb;simp only[List.length_map]at this;omega
       conv=>whnf
       exact(Ends.pure [] (by repeat' (first|exact True.intro|exact .int_of (by simp[checkU,mayU,hsd,h1,h2,h3,hb])|exact .A|exact LeL.fr rfl|refine .tupL ?_|refine .aggL ?_|refine⟨?_,?_⟩)) (by simp))
 ·have hlen:0 < u.new.length:=List.length_pos_iff.2 hn
  conv=>whnf
  refine fun(_:gd none _)=>?_
  conv=>whnf
  split
  rotate_left
  ·rename_i hc;exfalso;simp at hc;exact hn hc
  conv=>whnf
  refine callV_pure (check_ok fr u.attrs) ⟨.fr rfl,trivial⟩ ?_
  cases hright:rightA u.attrs with
  | false=>
   have hsd:saidU u=false:=by simp[saidU,hn,hright]
   rw[checkA_no hright]
   conv=>whnf
   refine callV_pure c1 ⟨.fr rfl,trivial⟩ ?_
   cases h1:riseP u.gone with
   | false=>
    conv=>whnf
    exact(Ends.pure [] (by repeat' (first|exact True.intro|exact .int_of (by simp[checkU,mayU,h1])|exact .A|exact LeL.fr rfl|refine .tupL ?_|refine .aggL ?_|refine⟨?_,?_⟩)) (by simp))
   | true=>
    conv=>whnf
    refine callV_pure c2 ⟨.fr rfl,trivial⟩ ?_
    cases h2:riseP u.new with
    | false=>
     conv=>whnf
     exact(Ends.pure [] (by repeat' (first|exact True.intro|exact .int_of (by simp[checkU,mayU,h2])|exact .A|exact LeL.fr rfl|refine .tupL ?_|refine .aggL ?_|refine⟨?_,?_⟩)) (by simp))
    | true=>
     conv=>whnf
     refine callV_pure c3 ⟨.fr rfl,.fr rfl,trivial⟩ ?_
     cases h3:apartP u.gone u.new with
     | false=>
      conv=>whnf
      exact(Ends.pure [] (by repeat' (first|exact True.intro|exact .int_of (by simp[checkU,mayU,h3])|exact .A|exact LeL.fr rfl|refine .tupL ?_|refine .aggL ?_|refine⟨?_,?_⟩)) (by simp))
     | true=>
      conv=>whnf
      exact(Ends.pure [] (by repeat' (first|exact True.intro|exact .int_of (by simp[checkU,mayU,hsd])|exact .A|exact LeL.fr rfl|refine .tupL ?_|refine .aggL ?_|refine⟨?_,?_⟩)) (by simp))
  | true=>
   have hsd:saidU u=true:=by simp[saidU,hn,hright]
   rw[checkA_yes hright]
   conv=>whnf
   refine callV_pure c1 ⟨.fr rfl,trivial⟩ ?_
   cases h1:riseP u.gone with
   | false=>
    conv=>whnf
    exact(Ends.pure [] (by repeat' (first|exact True.intro|exact .int_of (by simp[checkU,mayU,h1])|exact .A|exact LeL.fr rfl|refine .tupL ?_|refine .aggL ?_|refine⟨?_,?_⟩)) (by simp))
   | true=>
    conv=>whnf
    refine callV_pure c2 ⟨.fr rfl,trivial⟩ ?_
    cases h2:riseP u.new with
    | false=>
     conv=>whnf
     exact(Ends.pure [] (by repeat' (first|exact True.intro|exact .int_of (by simp[checkU,mayU,h2])|exact .A|exact LeL.fr rfl|refine .tupL ?_|refine .aggL ?_|refine⟨?_,?_⟩)) (by simp))
    | true=>
     conv=>whnf
     refine callV_pure c3 ⟨.fr rfl,.fr rfl,trivial⟩ ?_
     cases h3:apartP u.gone u.new with
     | false=>
      conv=>whnf
      exact(Ends.pure [] (by repeat' (first|exact True.intro|exact .int_of (by simp[checkU,mayU,h3])|exact .A|exact LeL.fr rfl|refine .tupL ?_|refine .aggL ?_|refine⟨?_,?_⟩)) (by simp))
     | true=>
      conv=>whnf
      refine callV_pure (uraw_ok fr u hs (okPs_rise h1) (okPs_rise h2)) ⟨.fr rfl,trivial⟩ ?_
      conv=>whnf
      refine fun(_:gd none _)=>?_
      conv=>whnf
      split
      ·rename_i hb
       have hb:493 < (bodyB u).length:=by have:=of_decide_eq_true hb;simp only[List.length_map]at this;omega
       conv=>whnf
       exact(Ends.pure [] (by repeat' (first|exact True.intro|exact .int_of (by simp[checkU,mayU,hsd,h1,h2,h3,hb])|exact .A|exact LeL.fr rfl|refine .tupL ?_|refine .aggL ?_|refine⟨?_,?_⟩)) (by simp))
      ·rename_i hb
       have hb:¬ 493 < (bodyB u).length:=by have:=of_decide_eq_false hb;simp only[List.length_map]at this;omega
       conv=>whnf
       exact(Ends.pure [] (by repeat' (first|exact True.intro|exact .int_of (by simp[checkU,mayU,hsd,h1,h2,h3,hb])|exact .A|exact LeL.fr rfl|refine .tupL ?_|refine .aggL ?_|refine⟨?_,?_⟩)) (by simp))
theorem rraw_ok (fr:Bool) (u:Upd) (hs:Small u) (hg:okPs u.gone) (hn:okPs u.new) (h0:u.new=[]→rightA u.attrs=false) (hr:u.new ≠ []→rightA u.attrs=true):PCon prog 136 [encU fr u] (encB true (bodyB u)):=by
 have:=PCon.of_own (rraw_own fr u hs hg hn h0 hr) (by simp[rowsB]) (rowsB_free _)
 rwa [List.take_of_length_le (by simp[rowsB])]at this
theorem rcheck_ok (fr:Bool) (u:Upd) (hs:Small u):PCon prog 85 [encU fr u] (.int .i64 (checkU u)):=by
 have c1:=refRise_ok fr u.gone
 have c2:=refRise_ok fr u.new
 have c3:=refApart_ok fr fr u.gone u.new
 refine callV_of (fn:=Go.Proofs.Tryz.f85) (body:=_) tab_ok mixed rfl rfl (by decide) (by simp[Go.Proofs.Tryz.f85]) ?_
 conv=>whnf
 refine callV_pure c1 ⟨.fr rfl,trivial⟩ ?_
 cases h1:riseP u.gone with
 | false=>
  conv=>whnf
  exact(Ends.pure [] (by repeat' (first|exact True.intro|exact .int_of (by simp[checkU,mayU,h1])|exact .A|exact LeL.fr rfl|refine .tupL ?_|refine .aggL ?_|refine⟨?_,?_⟩)) (by simp))
 | true=>
 conv=>whnf
 refine callV_pure c2 ⟨.fr rfl,trivial⟩ ?_
 cases h2:riseP u.new with
 | false=>
  conv=>whnf
  exact(Ends.pure [] (by repeat' (first|exact True.intro|exact .int_of (by simp[checkU,mayU,h2])|exact .A|exact LeL.fr rfl|refine .tupL ?_|refine .aggL ?_|refine⟨?_,?_⟩)) (by simp))
 | true=>
 conv=>whnf
 refine callV_pure c3 ⟨.fr rfl,.fr rfl,trivial⟩ ?_
 cases h3:apartP u.gone u.new with
 | false=>
  conv=>whnf
  exact(Ends.pure [] (by repeat' (first|exact True.intro|exact .int_of (by simp[checkU,mayU,h3])|exact .A|exact LeL.fr rfl|refine .tupL ?_|refine .aggL ?_|refine⟨?_,?_⟩)) (by simp))
 | true=>
 conv=>whnf
 refine fun(_:gd none _)=>?_
 conv=>whnf
 split
 ·rename_i hlen
  have hn:u.new ≠ []:=by intro e;rw[e]at hlen;simp at hlen
  conv=>whnf
  refine callV_pure (right_ok fr u.attrs) ⟨.fr rfl,trivial⟩ ?_
  cases hright:rightA u.attrs with
  | false=>
   have hsd:saidU u=false:=by simp[saidU,hn,hright]
   conv=>whnf
   exact(Ends.pure [] (by repeat' (first|exact True.intro|exact .int_of (by simp[checkU,mayU,hsd])|exact .A|exact LeL.fr rfl|refine .tupL ?_|refine .aggL ?_|refine⟨?_,?_⟩)) (by simp))
  | true=>
   have hsd:saidU u=true:=by simp[saidU,hn,hright]
   conv=>whnf
   refine fun(_:gd none _)=>?_
   conv=>whnf
   split
   ·rename_i hc;exfalso;simp at hc;exact hn hc
   conv=>whnf
   refine callV_pure (rraw_ok fr u hs (okPs_rise h1) (okPs_rise h2) (fun h=>absurd h hn) (fun _=>hright)) ⟨.fr rfl,trivial⟩ ?_
   conv=>whnf
   refine fun(_:gd none _)=>?_
   conv=>whnf
   split
   ·rename_i hb
    have hb:493 < (bodyB u).length:=by have:=of_decide_eq_true hb;simp only[List.length_map]at this;omega
    conv=>whnf
    exact(Ends.pure [] (by repeat' (first|exact True.intro|exact .int_of (by simp[checkU,mayU,hsd,h1,h2,h3,hb])|exact .A|exact LeL.fr rfl|refine .tupL ?_|refine .aggL ?_|refine⟨?_,?_⟩)) (by simp))
   ·rename_i hb
    have hb:¬ 493 < (bodyB u).length:=by have:=of_decide_eq_false hb;simp only[List.length_map]at this;omega
    conv=>whnf
    exact(Ends.pure [] (by repeat' (first|exact True.intro|exact .int_of (by simp[checkU,mayU,hsd,h1,h2,h3,hb])|exact .A|exact LeL.fr rfl|refine .tupL ?_|refine .aggL ?_|refine⟨?_,?_⟩)) (by simp))
 ·rename_i hlen
  have hn:u.new=[]:=by simpa using hlen
  conv=>whnf
  refine fun(_:gd none _)=>?_
  conv=>whnf
  split
  rotate_left
  ·rename_i hc;exfalso;simp[hn]at hc
  conv=>whnf
  refine callV_pure (ref_same_ok fr true u.attrs noA) ⟨.fr rfl,.noA,trivial⟩ ?_
  cases hsame:sameA u.attrs noA with
  | false=>
   have hsd:saidU u=false:=by simp[saidU,hn,hsame]
   conv=>whnf
   exact(Ends.pure [] (by repeat' (first|exact True.intro|exact .int_of (by simp[checkU,mayU,hsd])|exact .A|exact LeL.fr rfl|refine .tupL ?_|refine .aggL ?_|refine⟨?_,?_⟩)) (by simp))
  | true=>
   have hsd:saidU u=true:=by simp[saidU,hn,hsame]
   have hno:=saidU_nil hn hsd
   conv=>whnf
   refine callV_pure (rraw_ok fr u hs (okPs_rise h1) (okPs_rise h2) (fun _=>hno) (fun h=>absurd hn h)) ⟨.fr rfl,trivial⟩ ?_
   conv=>whnf
   refine fun(_:gd none _)=>?_
   conv=>whnf
   split
   ·rename_i hb
    have hb:493 < (bodyB u).length:=by have:=of_decide_eq_true hb;simp only[List.length_map]at this;omega
    conv=>whnf
    exact(Ends.pure [] (by repeat' (first|exact True.intro|exact .int_of (by simp[checkU,mayU,hsd,h1,h2,h3,hb])|exact .A|exact LeL.fr rfl|refine .tupL ?_|refine .aggL ?_|refine⟨?_,?_⟩)) (by simp))
   ·rename_i hb
    have hb:¬ 493 < (bodyB u).length:=by have:=of_decide_eq_false hb;simp only[List.length_map]at this;omega
    conv=>whnf
    exact(Ends.pure [] (by repeat' (first|exact True.intro|exact .int_of (by simp[checkU,mayU,hsd,h1,h2,h3,hb])|exact .A|exact LeL.fr rfl|refine .tupL ?_|refine .aggL ?_|refine⟨?_,?_⟩)) (by simp))
end
def keysE {α:Type} (l:List (Prefix × α)):List Prefix:=l.map fun e=>e.1
def getE {α:Type} (l:List (Prefix × α)) (p:Prefix):Option α:=(l.find? fun e=>decide (e.1=p)).map fun e=>e.2
def putE {α:Type} (l:List (Prefix × α)) (p:Prefix) (a:α):List (Prefix × α):=if p∈keysE l then l.map (fun e=>if e.1=p then(p,a)else e)else l ++ [(p,a)]
def delE {α:Type} (l:List (Prefix × α)) (p:Prefix):List (Prefix × α):=l.filter fun e=>!decide (e.1=p)
def NodE {α:Type} (l:List (Prefix × α)):Prop:=(keysE l).Nodup
def RisE {α:Type} (l:List (Prefix × α)):Prop:=(keysE l).Pairwise fun x y=>pkey x < pkey y
theorem RisE.nod {α:Type} {l:List (Prefix × α)} (h:RisE l):NodE l:=nodup_of_strict h
theorem getE_mem {α:Type} {l:List (Prefix × α)} {p:Prefix} {a:α} (h:getE l p=some a):(p,a)∈l:=by
 simp only[getE,Option.map_eq_some_iff]at h
 obtain⟨e,he,rfl⟩:=h
 have h1:=List.find?_some he
 have h1:e.1=p:=by simpa using h1
 subst h1
 exact List.mem_of_find?_eq_some he
theorem mem_getE {α:Type} {p:Prefix} {a:α}:∀{l:List (Prefix × α)},NodE l→(p,a)∈l→getE l p=some a
 | e :: l,hn,h=>by
  simp only[NodE,keysE,List.map_cons,List.nodup_cons]at hn
  by_cases he:e.1=p
  ·have:e=(p,a):=by
    rcases List.mem_cons.1 h with h|h
    ·exact h.symm
    ·exact absurd (List.mem_map.2 ⟨_,h,rfl⟩) (he▸hn.1)
   subst this
   simp[getE]
  ·have h:(p,a)∈l:=by
    rcases List.mem_cons.1 h with h|h
    ·exact absurd (h▸rfl) he
    ·exact h
   have ih:=mem_getE (l:=l) hn.2 h
   simp only[getE,List.find?_cons,decide_eq_false he]at ih ⊢
   exact ih
theorem getE_iff {α:Type} {l:List (Prefix × α)} (hn:NodE l) {p:Prefix} {a:α}:getE l p=some a↔(p,a)∈l:=⟨getE_mem,mem_getE hn⟩
theorem getE_none {α:Type} {l:List (Prefix × α)} {p:Prefix}:getE l p=none↔p ∉ keysE l:=by
 simp only[getE,Option.map_eq_none_iff,List.find?_eq_none,keysE,List.mem_map,not_exists,not_and,decide_eq_true_eq]
theorem getE_key {α:Type} {l:List (Prefix × α)} {p:Prefix} {a:α} (h:getE l p=some a):p∈keysE l:=List.mem_map.2 ⟨_,getE_mem h,rfl⟩
theorem key_getE {α:Type} {l:List (Prefix × α)} {p:Prefix} (h:p∈keysE l):∃a,getE l p=some a:=by
 cases hg:getE l p with
 | some a=>exact⟨a,rfl⟩
 | none=>exact absurd h (getE_none.1 hg)
theorem NodE.nodup {α:Type} {l:List (Prefix × α)} (h:NodE l):l.Nodup:=by
 unfold NodE keysE at h
 exact List.Pairwise.imp (fun h e=>h (by rw[e])) (List.pairwise_map.1 h)
theorem perm_getE {α:Type} {l l':List (Prefix × α)} (hn:NodE l) (hn':NodE l') (h:∀p,getE l p=getE l' p):l.Perm l':=by
 rw[List.perm_ext_iff_of_nodup hn.nodup hn'.nodup]
 rintro ⟨p,a⟩
 rw[← getE_iff hn,← getE_iff hn',h]
theorem NodE.perm {α:Type} {l l':List (Prefix × α)} (hn:NodE l) (h:l.Perm l'):NodE l':=(h.map _).nodup_iff.1 hn
theorem getE_perm {α:Type} {l l':List (Prefix × α)} (hn:NodE l) (h:l.Perm l') (p:Prefix):getE l p=getE l' p:=by
 have hn':=hn.perm h
 cases hg:getE l p with
 | some a=>exact((getE_iff hn').2 (h.mem_iff.1 ((getE_iff hn).1 hg))).symm
 | none=>
  cases hg':getE l' p with
  | none=>rfl
  | some a=>
   rw[(getE_iff hn).2 (h.mem_iff.2 ((getE_iff hn').1 hg'))]at hg
   cases hg
theorem keys_put_in {α:Type} {l:List (Prefix × α)} {p:Prefix} {a:α} (h:p∈keysE l):keysE (putE l p a)=keysE l:=by
 unfold putE
 rw[if_pos h]
 simp only[keysE,List.map_map]
 apply List.map_congr_left
 intro e he
 simp only[Function.comp]
 split
 ·rename_i h;exact h.symm
 ·rfl
theorem keys_put_new {α:Type} {l:List (Prefix × α)} {p:Prefix} {a:α} (h:p ∉ keysE l):keysE (putE l p a)=keysE l ++ [p]:=by
 unfold putE
 rw[if_neg h]
 simp[keysE]
theorem nod_put {α:Type} {l:List (Prefix × α)} {p:Prefix} {a:α} (hn:NodE l):NodE (putE l p a):=by
 unfold NodE
 by_cases h:p∈keysE l
 ·rw[keys_put_in h];exact hn
 ·rw[keys_put_new h,List.nodup_append]
  refine⟨hn,by simp,?_⟩
  intro x hx y hy
  simp at hy
  subst hy
  exact fun e=>h (e▸hx)
theorem getE_map_put {α:Type} {p q:Prefix} {a:α}:∀{l:List (Prefix × α)},p∈keysE l→getE (l.map fun e=>if e.1=p then(p,a)else e) q=if q=p then some a else getE l q
 | [],h=>by simp[keysE]at h
 | e :: l,h=>by
  by_cases he:e.1=p
  ·by_cases hq:q=p
   ·subst hq
    simp[getE,he]
   ·have e2:getE (l.map fun e=>if e.1=p then(p,a)else e) q=getE l q:=by
     by_cases h2:p∈keysE l
     ·rw[getE_map_put h2,if_neg hq]
     ·congr 1
      conv=>rhs;rw[← List.map_id l]
      apply List.map_congr_left
      intro x hx
      rw[if_neg fun e=>h2 (List.mem_map.2 ⟨x,hx,e⟩)]
      rfl
    rw[if_neg hq]
    simp only[getE,List.map_cons,if_pos he,List.find?_cons]at e2 ⊢
    rw[decide_eq_false (fun e=>hq e.symm),he,decide_eq_false (fun e=>hq e.symm)]
    exact e2
  ·have h2:p∈keysE l:=by
    simp only[keysE,List.map_cons,List.mem_cons]at h
    rcases h with h|h
    ·exact absurd h.symm he
    ·exact h
   have ih:=getE_map_put (q:=q) (a:=a) h2
   simp only[getE,List.map_cons,if_neg he,List.find?_cons]at ih ⊢
   by_cases hq:e.1=q
   ·rw[decide_eq_true hq]
    simp only[Option.map_some]
    rw[if_neg (fun e2=>he (hq.trans e2))]
   ·rw[decide_eq_false hq]
    exact ih
theorem getE_put {α:Type} {l:List (Prefix × α)} {p q:Prefix} {a:α}:getE (putE l p a) q=if q=p then some a else getE l q:=by
 unfold putE
 by_cases h:p∈keysE l
 ·rw[if_pos h,getE_map_put h]
 ·rw[if_neg h]
  have hnone:=getE_none.2 h
  simp only[getE,List.find?_append,Option.map_eq_none_iff]at hnone ⊢
  by_cases hq:q=p
  ·subst hq
   rw[hnone]
   simp
  ·rw[if_neg hq]
   have:List.find? (fun e=>decide (e.1=q)) [(p,a)]=none:=by simp[Ne.symm hq]
   rw[this,Option.or_none]
theorem keys_del {α:Type} {l:List (Prefix × α)} {p q:Prefix}:q∈keysE (delE l p)↔q ≠ p∧q∈keysE l:=by
 simp only[keysE,delE,List.mem_map,List.mem_filter,Bool.not_eq_true',decide_eq_false_iff_not]
 constructor
 ·rintro ⟨e,⟨h1,h2⟩,rfl⟩
  exact⟨h2,e,h1,rfl⟩
 ·rintro ⟨h1,e,h2,rfl⟩
  exact⟨e,⟨h2,h1⟩,rfl⟩
theorem nod_filter {α:Type} {l:List (Prefix × α)} (f:Prefix × α→Bool) (hn:NodE l):NodE (l.filter f):=List.Sublist.nodup (List.Sublist.map _ List.filter_sublist) hn
theorem ris_filter {α:Type} {l:List (Prefix × α)} (f:Prefix × α→Bool) (hn:RisE l):RisE (l.filter f):=List.Pairwise.sublist (List.Sublist.map _ List.filter_sublist) hn
theorem nod_del {α:Type} {l:List (Prefix × α)} {p:Prefix} (hn:NodE l):NodE (delE l p):=nod_filter _ hn
theorem getE_filter {α:Type} {l:List (Prefix × α)} (f:Prefix→Bool) (q:Prefix):getE (l.filter fun e=>f e.1) q=if f q then getE l q else none:=by
 induction l with
 | nil=>simp[getE]
 | cons e l ih=>
  simp only[getE]at ih ⊢
  rw[List.filter_cons]
  by_cases he:e.1=q
  ·subst he
   cases hf:f e.1 with
   | true=>simp
   | false=>simp only[hf,Bool.false_eq_true,if_false]at ih ⊢;exact ih
  ·cases hf:f e.1 with
   | true=>simp only[if_true,List.find?_cons,decide_eq_false he];exact ih
   | false=>simp only[Bool.false_eq_true,if_false,List.find?_cons,decide_eq_false he];exact ih
theorem getE_del {α:Type} {l:List (Prefix × α)} {p q:Prefix}:getE (delE l p) q=if q=p then none else getE l q:=by
 have h:=getE_filter (l:=l) (fun x=>!decide (x=p)) q
 simp only[Bool.not_eq_true',decide_eq_false_iff_not]at h
 rw[delE,h]
 by_cases hq:q=p<;>simp[hq]
structure Change where
 pfx:Prefix
 has:Bool
 attrs:Attrs
deriving DecidableEq
def chg (z:Attrs) (f g:Prefix→Option Attrs) (p:Prefix):Option Change:=if f p=g p then none else some ⟨p,(g p).isSome,(g p).getD z⟩
def withoutE {α:Type} (l:List (Prefix × α)) (gone:List Prefix):List (Prefix × α):=l.filter fun e=>!decide (e.1∈gone)
def stepX {α:Type} (x:Prefix × α) (s:List (Prefix × α) × Bool) (y:Prefix × α):List (Prefix × α) × Bool:=if s.2=false∧0 < cmpP y.1 x.1 then(s.1 ++ [x]++ [y],true)else(s.1 ++ [y],s.2)
def foldX {α:Type} (l:List (Prefix × α)) (x:Prefix × α):List (Prefix × α) × Bool:=l.foldl (stepX x) ([],false)
def withE {α:Type} (l:List (Prefix × α)) (x:Prefix × α):List (Prefix × α):=if(foldX l x).2 then(foldX l x).1 else(foldX l x).1 ++ [x]
def insE {α:Type} (x:Prefix × α):List (Prefix × α)→List (Prefix × α)
 | []=>[x]
 | y :: l=>if 0 < cmpP y.1 x.1 then x :: y :: l else y :: insE x l
theorem foldX_true {α:Type} (x:Prefix × α):∀(l acc:List (Prefix × α)),l.foldl (stepX x) (acc,true)=(acc ++ l,true)
 | [],acc=>by simp
 | y :: l,acc=>by
  rw[List.foldl_cons,stepX,if_neg (by simp),foldX_true x l]
  simp
theorem foldX_ins {α:Type} (x:Prefix × α):∀(l acc:List (Prefix × α)),(if(l.foldl (stepX x) (acc,false)).2 then(l.foldl (stepX x) (acc,false)).1 else(l.foldl (stepX x) (acc,false)).1 ++ [x])=acc ++ insE x l
 | [],acc=>by simp[insE]
 | y :: l,acc=>by
  rw[insE]
  by_cases h:0 < cmpP y.1 x.1
  ·have e:stepX x (acc,false) y=(acc ++ [x]++ [y],true):=by rw[stepX,if_pos ⟨rfl,h⟩]
   simp only[List.foldl_cons,e,foldX_true,if_true,if_pos h]
   simp
  ·have e:stepX x (acc,false) y=(acc ++ [y],false):=by rw[stepX,if_neg (by simp[h])]
   have ih:=foldX_ins x l (acc ++ [y])
   simp only[List.foldl_cons,e,if_neg h]
   rw[ih]
   simp
theorem withE_ins {α:Type} (l:List (Prefix × α)) (x:Prefix × α):withE l x=insE x l:=by
 have:=foldX_ins x l []
 rw[List.nil_append]at this
 exact this
theorem insE_perm {α:Type} (x:Prefix × α):∀l:List (Prefix × α),(insE x l).Perm (x :: l)
 | []=>.refl _
 | y :: l=>by
  rw[insE]
  split
  ·exact .refl _
  ·exact((insE_perm x l).cons y).trans (.swap x y l)
theorem insE_ris {α:Type} {x:Prefix × α}:∀{l:List (Prefix × α)},RisE l→x.1 ∉ keysE l→RisE (insE x l)
 | [],_,_=>by simp[RisE,keysE,insE]
 | y :: l,h,hx=>by
  have h1:(∀z∈keysE l,pkey y.1 < pkey z)∧RisE l:=by
   simp only[RisE,keysE,List.map_cons,List.pairwise_cons]at h
   exact h
  simp only[keysE,List.map_cons,List.mem_cons,not_or]at hx
  have hne:pkey x.1 ≠ pkey y.1:=fun e=>hx.1 (pkey_inj e)
  rw[insE]
  split
  ·rename_i hc
   have hlt:=(cmpP_gt _ _).1 hc
   simp only[RisE,keysE,List.map_cons,List.pairwise_cons,List.mem_cons]
   refine⟨?_,⟨h1.1,h1.2⟩⟩
   rintro z (rfl|hz)
   ·exact hlt
   ·exact Nat.lt_trans hlt (h1.1 z hz)
  ·rename_i hc
   have hlt:pkey y.1 < pkey x.1:=by
    have:¬ pkey x.1 < pkey y.1:=fun h=>hc ((cmpP_gt _ _).2 h)
    omega
   have ih:=insE_ris h1.2 hx.2
   simp only[RisE,keysE,List.map_cons,List.pairwise_cons]
   refine⟨fun z hz=>?_,ih⟩
   have hm:z∈keysE (x :: l):=((insE_perm x l).map fun e:Prefix × α=>e.1).mem_iff.1 hz
   simp only[keysE,List.map_cons,List.mem_cons]at hm
   rcases hm with rfl|hm
   ·exact hlt
   ·exact h1.1 z hm
theorem getE_cons {α:Type} {x:Prefix × α} {l:List (Prefix × α)} {q:Prefix}:getE (x :: l) q=if q=x.1 then some x.2 else getE l q:=by
 simp only[getE,List.find?_cons]
 by_cases h:q=x.1
 ·subst h;simp
 ·rw[if_neg h,decide_eq_false (fun e=>h e.symm)]
theorem getE_ins {α:Type} {x:Prefix × α} {l:List (Prefix × α)} (hr:RisE l) (hx:x.1 ∉ keysE l) (q:Prefix):getE (insE x l) q=if q=x.1 then some x.2 else getE l q:=by
 rw[getE_perm (insE_ris hr hx).nod (insE_perm x l),getE_cons]
def putsM {α:Type} (l:List (Prefix × α)) (new:List Prefix) (a:α):List (Prefix × α):=new.foldl (fun l p=>putE l p a) l
def delsM {α:Type} (l:List (Prefix × α)) (gone:List Prefix):List (Prefix × α):=gone.foldl delE l
def takeM {α:Type} (l:List (Prefix × α)) (gone new:List Prefix) (a:α):List (Prefix × α):=putsM (delsM l gone) new a
def takeS {α:Type} (l:List (Prefix × α)) (gone new:List Prefix) (a:α):List (Prefix × α):=new.foldl (fun l p=>withE l (p,a)) (withoutE (withoutE l gone) new)
theorem nod_dels {α:Type}:∀{gone:List Prefix} {l:List (Prefix × α)},NodE l→NodE (delsM l gone)
 | [],_,h=>h
 | p :: gone,_,h=>nod_dels (gone:=gone) (nod_del h)
theorem getE_dels {α:Type}:∀{gone:List Prefix} {l:List (Prefix × α)} {q:Prefix},getE (delsM l gone) q=if q∈gone then none else getE l q
 | [],l,q=>by simp[delsM]
 | p :: gone,l,q=>by
  show getE (delsM (delE l p) gone) q=_
  rw[getE_dels,getE_del]
  by_cases h1:q∈gone<;>by_cases h2:q=p<;>simp[h1,h2]
theorem nod_puts {α:Type} {a:α}:∀{new:List Prefix} {l:List (Prefix × α)},NodE l→NodE (putsM l new a)
 | [],_,h=>h
 | p :: new,_,h=>nod_puts (new:=new) (nod_put h)
theorem getE_puts {α:Type} {a:α}:∀{new:List Prefix} {l:List (Prefix × α)} {q:Prefix},getE (putsM l new a) q=if q∈new then some a else getE l q
 | [],l,q=>by simp[putsM]
 | p :: new,l,q=>by
  show getE (putsM (putE l p a) new a) q=_
  rw[getE_puts,getE_put]
  by_cases h1:q∈new<;>by_cases h2:q=p<;>simp[h1,h2]
theorem nod_take {α:Type} {l:List (Prefix × α)} {gone new:List Prefix} {a:α} (h:NodE l):NodE (takeM l gone new a):=nod_puts (nod_dels h)
theorem getE_take {α:Type} {l:List (Prefix × α)} {gone new:List Prefix} {a:α} {q:Prefix}:getE (takeM l gone new a) q=if q∈new then some a else if q∈gone then none else getE l q:=by
 rw[takeM,getE_puts,getE_dels]
theorem getE_without {α:Type} {l:List (Prefix × α)} {gone:List Prefix} {q:Prefix}:getE (withoutE l gone) q=if q∈gone then none else getE l q:=by
 have h:=getE_filter (l:=l) (fun x=>!decide (x∈gone)) q
 simp only[Bool.not_eq_true',decide_eq_false_iff_not]at h
 rw[withoutE,h]
 by_cases hq:q∈gone<;>simp[hq]
theorem ris_without {α:Type} {l:List (Prefix × α)} {gone:List Prefix} (h:RisE l):RisE (withoutE l gone):=ris_filter _ h
theorem withs_ok {α:Type} {a:α}:∀{new:List Prefix} {l:List (Prefix × α)},RisE l→new.Nodup→(∀p∈new,p ∉ keysE l) →
  RisE (new.foldl (fun l p=>withE l (p,a)) l)∧∀q,getE (new.foldl (fun l p=>withE l (p,a)) l) q=if q∈new then some a else getE l q
 | [],l,h,_,_=>⟨h,fun q=>by simp⟩
 | p :: new,l,h,hn,hk=>by
  have hp:=hk p (by simp)
  rw[List.nodup_cons]at hn
  have h1:RisE (withE l (p,a)):=by rw[withE_ins];exact insE_ris h hp
  have hg:∀q,getE (withE l (p,a)) q=if q=p then some a else getE l q:=fun q=>by rw[withE_ins];exact getE_ins h hp q
  have hk2:∀q∈new,q ∉ keysE (withE l (p,a)):=fun q hq=>by
   rw[← getE_none,hg,if_neg (fun e=>hn.1 (by rw[← e];exact hq)),getE_none]
   exact hk q (by simp[hq])
  obtain⟨r1,r2⟩:=withs_ok (a:=a) h1 hn.2 hk2
  refine⟨r1,fun q=>?_⟩
  rw[List.foldl_cons,r2,hg]
  by_cases h1:q∈new<;>by_cases h2:q=p<;>simp[h1,h2]
theorem takeS_ok {α:Type} {l:List (Prefix × α)} {gone new:List Prefix} {a:α} (h:RisE l) (hn:new.Nodup) :
  RisE (takeS l gone new a)∧∀q,getE (takeS l gone new a) q=if q∈new then some a else if q∈gone then none else getE l q:=by
 have h1:RisE (withoutE (withoutE l gone) new):=ris_without (ris_without h)
 have hk:∀p∈new,p ∉ keysE (withoutE (withoutE l gone) new):=fun p hp=>by rw[← getE_none,getE_without,if_pos hp]
 obtain⟨r1,r2⟩:=withs_ok (a:=a) h1 hn hk
 refine⟨r1,fun q=>?_⟩
 rw[takeS,r2,getE_without,getE_without]
 by_cases h1:q∈new<;>simp[h1]
theorem take_perm {α:Type} {l m:List (Prefix × α)} {gone new:List Prefix} {a:α} (h:RisE l) (hp:m.Perm l) (hn:new.Nodup):(takeM m gone new a).Perm (takeS l gone new a):=by
 obtain⟨r1,r2⟩:=takeS_ok (gone:=gone) (a:=a) h hn
 have hm:=h.nod.perm hp.symm
 exact perm_getE (nod_take hm) r1.nod fun p=>by rw[getE_take,r2,getE_perm hm hp]
section
open Go.Proofs.Tryz (prog)
attribute [local irreducible] CallV RoundV aggK
structure Peer where
 sys:UInt32
 id:UInt32
 addr:UInt32
 inner:Bool
deriving DecidableEq
def cellsPe (p:Peer):List V:=[cW p.sys,cW p.id,cW p.addr,.bool p.inner]
def encPe (p:Peer):V:=.agg (cellsPe p)
def esA (m:List (Prefix × Attrs)):List (V × V):=m.map fun e=>(encP e.1,encA false e.2)
theorem cellsPe_all (p:Peer):∀v∈cellsPe p,Free v∧Cold v∧Fresh v:=by
 intro v hv
 simp only[cellsPe,List.mem_cons,List.not_mem_nil,or_false]at hv
 rcases hv with rfl|rfl|rfl|rfl<;>first|exact⟨.int,.int,.int⟩|exact⟨.bool,.bool,.bool⟩
theorem encPe_free (p:Peer):Free (encPe p):=.agg fun v hv=>(cellsPe_all p v hv).1
theorem esA_free (m:List (Prefix × Attrs)):∀kv∈esA m,Free kv.1∧Free kv.2:=by
 intro kv h
 obtain⟨e,_,rfl⟩:=List.mem_map.1 h
 exact⟨encP_free _,encA_free _ _⟩
theorem esA_keys (m:List (Prefix × Attrs)):KeysV tab 31 (esA m):=by
 intro kv h
 obtain⟨e,_,rfl⟩:=List.mem_map.1 h
 exact keyP _
theorem imapA_free (m:List (Prefix × Attrs)):Free (.imap false (esA m)):=.imap fun kv h=>esA_free m kv h
instance {p}:FreeI (encPe p):=⟨⟨encPe_free p⟩⟩
instance {m}:FreeI (.imap false (esA m)):=⟨⟨imapA_free m⟩⟩
theorem clone_evo {G:Gh} {w:World} (o:Obj) (hr:HR G [] 0 w):Evo 0 G w ⟨fun b=>if b=0 then some w.heap.size else none,G.amb,G.B⟩ (w.alloc o):=by
 have hB:Below w.heap.size w (w.alloc o):=(Below.refl _ w).alloc (Nat.le_refl _) _
 refine⟨hB.os,hB.tape,hB.output,hB.size,rfl,fun c h=>h,fun c h=>hB.block c (hr.amb_lt c h),fun c m h=>?_,fun b c h=>by omega,fun c h _=>hB.block c h,fun c h _=>.inl h,fun b c h hlt=>?_⟩
 ·have hlt:c < w.heap.size:=by
   unfold csz at h
   split at h
   ·rename_i e
    exact(Array.getElem?_eq_some_iff.1 e).1
   ·cases h
  unfold csz at h ⊢
  rw[hB.block c hlt]
  exact h
 ·simp only at h
  split at h
  ·cases h;omega
  ·cases h
theorem imap_out {G:Gh} {w:World} {fr:Bool} {es:List (V × V)} {u:Value} (h:vr G w (.imap fr es) u):∃(c:Nat) (arr:Array MapEntry) (clk:Nat),u=.map (some c)∧w.heap[c]? = some (.map arr clk)∧EntOk arr clk∧es.length=arr.toList.length ∧
  ∀(j:Nat) (kv:V × V) (e:MapEntry),es[j]? = some kv→arr.toList[j]? = some e→vr G w kv.1 e.key∧vr G w kv.2 e.val:=by
 cases h with
 | imap _ _ c arr clk hc hok hl hk hv=>exact⟨c,arr,clk,rfl,rd_map.1 hc.1,hok,hl,fun j kv e h1 h2=>⟨hk j kv e h1 h2,hv j kv e h1 h2⟩⟩
theorem alloc_at (w:World) (o:Obj):(w.alloc o).heap[w.heap.size]? = some o:=(MapKept.heap_alloc w _).1
end
section
open Go.Proofs.Tryz (prog)
attribute [local irreducible] CallV RoundV aggK
def litW (x:UInt32):Lit:=.int .u32 (x.toNat:Int)
theorem litW_inj {x y:UInt32} (h:litW x=litW y):x=y:=by
 simp only[litW,Lit.int.injEq,true_and]at h
 exact UInt32.toNat_inj.1 (by omega)
end
section
open Go.Proofs.Tryz (prog)
attribute [local irreducible] CallV RoundV aggK
theorem cloneRu_own (fr:Bool) (l:List Rule) (hl:l.length≤1000):OCon prog 68 [encRus fr l] true false 132 15 l.length (rowsRu l):=by
 rcases l with _|⟨x,l⟩
 ·refine callV_of (fn:=Go.Proofs.Tryz.f68) (body:=_) tab_ok mixed rfl rfl (by decide) (by simp[Go.Proofs.Tryz.f68]) ?_
  conv=>whnf
  refine⟨?_,?_⟩
  ·conv=>whnf
   exact Ends.ownNil
  ·conv=>whnf
   refine⟨⟨rfl,rfl,rfl,rfl,by decide⟩,by simp,⟨by simp[tab,tabOf,nth],by simp⟩,?_⟩
   conv=>whnf
   exact Ends.own rfl (by simp) rfl rfl
 ·refine callV_of (fn:=Go.Proofs.Tryz.f68) (body:=_) tab_ok mixed rfl rfl (by decide) (by simp[Go.Proofs.Tryz.f68]) ?_
  conv=>whnf
  refine⟨⟨rfl,rfl,rfl,rfl,by decide⟩,by simp,⟨by simp[tab,tabOf,nth]at *;omega,by simp at *;omega⟩,?_⟩
  conv=>whnf
  exact Ends.own rfl (rowsRu_free (x :: l)) (by simp) rfl
theorem cloneRu_ok (fr:Bool) (l:List Rule) (hl:l.length≤1000):PCon prog 68 [encRus fr l] (encRus true l):=by
 have h:=PCon.of_own (cloneRu_own fr l hl) (by simp) (rowsRu_free l)
 rwa [List.take_of_length_le (by simp)]at h
def peerB (own:UInt32) (p:Peer):Bool:=decide (own ≠ 0)&& decide (p.sys ≠ 0)&& decide (p.id ≠ 0)&& decide (p.addr ≠ 0)&& (p.inner == decide (p.sys=own))
theorem zeroW (x:UInt32):((x.toNat:Int)=0)↔x=0:=by
 constructor
 ·intro h;exact UInt32.toNat_inj.1 (by simpa using h)
 ·intro h;subst h;rfl
theorem eqW (x y:UInt32):((x.toNat:Int)=y.toNat)↔x=y:=by
 constructor
 ·intro h;exact UInt32.toNat_inj.1 (by omega)
 ·intro h;subst h;rfl
theorem beqW (x y:UInt32):((x.toNat:Int) == (y.toNat:Int))=decide (x=y):=by
 by_cases h:x=y
 ·subst h;simp
 ·rw[decide_eq_false h]
  simp only[beq_eq_false_iff_ne]
  exact fun e=>h ((eqW _ _).1 e)
theorem rightPeer_ok (own:UInt32) (pe:Peer):PCon prog 35 [cW own,encPe pe] (.bool (peerB own pe)):=by
 have fin:∀{s:St} {b:Bool},b=peerB own pe→∃v1 h' nx',Ends 0 s (.bool b) v1 h' nx'∧(v1=.bool (peerB own pe)∧h'=[]∧nx'=0):=fun h=>Ends.pure [] (.bool_of h) (by simp)
 have z:=zeroW
 have e:=eqW
 refine callV_of (fn:=Go.Proofs.Tryz.f35) (body:=_) tab_ok mixed rfl rfl (by decide) (by simp[Go.Proofs.Tryz.f35]) ?_
 conv=>whnf
 repeat' first
  | refine fin ?_
  | (split<;>(conv=>whnf))
 all_goals simp_all[peerB,beqW]
structure RibS where
 own:UInt32
 peer:Peer
 pol:Policy
 said:List (Prefix × Attrs)
def encEn (fr:Bool) (e:Prefix × Attrs):List V:=cellsP e.1 ++ cellsA fr e.2
def encEns (fr:Bool) (l:List (Prefix × Attrs)):V:=.sl fr 10 (l.map (encEn fr))
def noRibS:RibS:=⟨0,⟨0,0,0,false⟩,⟨[],false⟩,[]⟩
theorem encEn_free (fr:Bool) (e:Prefix × Attrs):∀v∈encEn fr e,Free v:=by
 intro v hv
 rcases List.mem_append.1 hv with h|h
 ·exact cellsP_free _ v h
 ·exact cellsA_free _ _ v h
theorem encEns_free (fr:Bool) (l:List (Prefix × Attrs)):Free (encEns fr l):=.sl (by
 intro x hx v hv
 obtain⟨e,_,rfl⟩:=List.mem_map.1 hx
 exact encEn_free fr e v hv)
def newOk (own:UInt32) (pe:Peer) (pol:Policy):Bool:=peerB own pe && decide (checkP pol=0)
def newS (own:UInt32) (pe:Peer) (pol:Policy):RibS:=if newOk own pe pol then⟨own,pe,pol,[]⟩else noRibS
theorem pol_small {pol:Policy} (h:checkP pol=0):pol.rules.length≤16:=by
 unfold checkP at h
 split at h
 ·exact absurd h (by decide)
 ·split at h
  ·exact absurd h (by decide)
  ·omega
end
section
open Go.Proofs.Tryz (prog)
attribute [local irreducible] CallV RoundV aggK
theorem keys_erase {α:Type}:∀(l:List (Prefix × α)) (k:Nat),keysE (l.eraseIdx k)=(keysE l).eraseIdx k
 | [],_=>by simp[keysE]
 | p :: l,0=>by simp[keysE]
 | p :: l,k + 1=>by simpa[keysE]using keys_erase l k
theorem esA_erase:∀(l:List (Prefix × Attrs)) (k:Nat),(esA l).eraseIdx k=esA (l.eraseIdx k)
 | [],_=>by simp[esA]
 | p :: l,0=>by simp[esA]
 | p :: l,k + 1=>by simpa[esA]using esA_erase l k
end
section
open Go.Proofs.Tryz (prog)
attribute [local irreducible] CallV RoundV aggK
def byR (pol:Policy) (own:UInt32) (p:Prefix) (a:Attrs):Attrs × Bool:=if byE pol own p a ≠ 0 then(noA,false)else(byA pol own p a,byOk pol own p a)
theorem byV_R (fr:Bool) (pol:Policy) (own:UInt32) (p:Prefix) (a:Attrs):byV fr pol own p a=.tup [encA fr (byR pol own p a).1,.bool (byR pol own p a).2,.int .i64 (byE pol own p a)]:=by
 unfold byV byR
 by_cases h:byE pol own p a=0
 ·rw[if_neg (by simp[h]),if_neg (by simp[h]),h]
 ·rw[if_pos h,if_pos h]
def outA (pe:Peer) (a:Attrs):Attrs:=if pe.inner then a else { a with hasPref:=false,pref:=0 }
def isC (own:UInt32) (pe:Peer) (pol:Policy) (p:Prefix) (a:Attrs):Nat→Bool
 | 0=>true
 | 1=>!hasA a.path own
 | 2=>!hasA a.path own && (pe.inner || decide (firstOf a=pe.sys))
 | _=>!hasA a.path own && (pe.inner || decide (firstOf a=pe.sys))&& (byR pol own p (outA pe a)).2
def cnt (own:UInt32) (pe:Peer) (pol:Policy) (p:Prefix) (a:Attrs):Option Attrs:=if isC own pe pol p a 3 then some (byR pol own p (outA pe a)).1 else none
def zeroC:List V:=[.int .u8 0,.snil,.int .u32 0,.bool false,.int .u32 0,.bool false,.int .u32 0,.snil]
def optV (fr:Bool) (o:Option Attrs):V:=.tup [encA fr (o.getD noA),.bool o.isSome]
def smallA (a:Attrs):Prop:=a.path.length≤1000∧(∀p∈a.path,p.ns.length≤1000)∧a.tags.length≤1000
theorem look_some {m:List (Prefix × Attrs)} {p:Prefix} {a:Attrs} (h:getE m p=some a):MVal (esA m) (encP p) (some (encA false a)):=by
 obtain⟨i,hi⟩:=List.getElem?_of_mem (getE_mem h)
 exact⟨i,by simp[esA,hi]⟩
theorem look_none {m:List (Prefix × Attrs)} {p:Prefix} (h:getE m p=none):MVal (esA m) (encP p) none:=by
 intro kv hkv e
 obtain⟨x,hx,rfl⟩:=List.mem_map.1 hkv
 exact getE_none.1 h (List.mem_map.2 ⟨x,hx,encP_inj e⟩)
theorem cellsA_off {h:Heap} {nx nx':Nat} {ρ:Nat→Nat} {Z:List Nat} {a:Attrs}:LeL h nx ρ nx' Z (cellsA true a) (cellsA false a):=
 ⟨.fr rfl,(LeV.fr rfl).less Less.legs,.fr rfl,.fr rfl,.fr rfl,.fr rfl,.fr rfl,(LeV.fr rfl).less Less.encW,trivial⟩
end
section
open Go.Proofs.Tryz (prog)
attribute [local irreducible] CallV RoundV aggK
theorem LeB.mapPut {h:Heap} {nx nx':Nat} {ρ:Nat→Nat} {Z:List Nat} {out:List (Prefix × Attrs)} {p:Prefix} {b:Attrs} :
  LeB h nx ρ nx' Z (.map (mput (esA out) (encP p) (encA true b) none)) (.map (esA (out ++ [(p,b)]))):=by
 refine⟨by simp[mput,esA],fun j kv kv' h1 h2=>?_⟩
 simp only[mput,esA,List.map_append,List.map_cons,List.map_nil]at h1 h2
 rcases Nat.lt_or_ge j (List.map (fun e:Prefix × Attrs=>(encP e.1,encA false e.2)) out).length with hj|hj
 ·rw[List.getElem?_append_left hj]at h1 h2
  rw[h1]at h2
  cases h2
  have:=esA_free out kv (List.mem_of_getElem? h1)
  exact⟨.free this.1,.free this.2⟩
 ·rw[List.getElem?_append_right hj]at h1 h2
  have hz:j - (List.map (fun e:Prefix × Attrs=>(encP e.1,encA false e.2)) out).length=0:=by
   have:=(List.getElem?_eq_some_iff.1 h1).1
   simp only[List.length_cons,List.length_nil]at this
   omega
  rw[hz]at h1 h2
  simp only[List.getElem?_cons_zero,Option.some.injEq]at h1 h2
  subst h1;subst h2
  exact⟨.free (encP_free _),(LeV.free (encA_free true b)).less (less_encA true)⟩
theorem put_new {out:List (Prefix × Attrs)} {p:Prefix} (h:p ∉ keysE out):MPos (esA out) (encP p) none:=by
 intro kv hkv e
 obtain⟨x,hx,rfl⟩:=List.mem_map.1 hkv
 exact h (List.mem_map.2 ⟨x,hx,encP_inj e⟩)
def okM (own:UInt32) (pe:Peer) (pol:Policy) (m:List (Prefix × Attrs)):Prop:=NodE m∧m.length≤400∧∀e∈m,smallA e.2∧∀b,cnt own pe pol e.1 e.2=some b→smallA b
end
section
open Go.Proofs.Tryz (prog)
attribute [local irreducible] CallV RoundV aggK
structure Route where
 pfx:Prefix
 attrs:Attrs
 peer:Peer
def cellsRt (fr:Bool) (r:Route):List V:=cellsP r.pfx ++ cellsA fr r.attrs ++ cellsPe r.peer
def encRt (fr:Bool) (r:Route):V:=.agg (cellsRt fr r)
theorem cellsRt_free (fr:Bool) (r:Route):∀v∈cellsRt fr r,Free v:=by
 intro v hv
 rcases List.mem_append.1 hv with h|h
 ·rcases List.mem_append.1 h with h|h
  ·exact cellsP_free _ v h
  ·exact cellsA_free _ _ v h
 ·exact(cellsPe_all _ v h).1
theorem encRt_free (fr:Bool) (r:Route):Free (encRt fr r):=.agg (cellsRt_free fr r)
instance {fr r}:FreeI (encRt fr r):=⟨⟨encRt_free fr r⟩⟩
end
section
open Go.Proofs.Tryz (prog)
attribute [local irreducible] CallV RoundV aggK
theorem Ren.mapp {σ:Nat→Nat} {b b':Nat} (h:σ b=b'):Ren σ (.mapp b) (.mapp b'):=fun ι ι' z im u hι hv=>by
 subst h
 cases hv with
 | mapp _ c hc=>exact .mapp _ c ((hι b).trans hc)
end
section
open Go.Proofs.Tryz (prog)
attribute [local irreducible] CallV RoundV aggK VC VM CallB
theorem esA_cold (m:List (Prefix × Attrs)):∀kv∈esA m,Cold kv.1∧Cold kv.2:=by
 intro kv h
 obtain⟨e,_,rfl⟩:=List.mem_map.1 h
 exact⟨encP_cold _,encA_cold _⟩
theorem mem_dd {l:List Prefix} {p:Prefix} (h:p∈l) (hr:prefOk p=true):p∈dd l:=by
 have keep:∀(l acc:List Prefix),p∈acc→p∈l.foldl ddS acc:=by
  intro l
  induction l with
  | nil=>intro acc h;exact h
  | cons x l ih=>intro acc h;refine ih _ ?_;unfold ddS;split<;>(try split)<;>simp[h]
 have key:∀(l acc:List Prefix),p∈l→p∈l.foldl ddS acc:=by
  intro l
  induction l with
  | nil=>intro acc h;cases h
  | cons x l ih=>
   intro acc h
   rcases List.mem_cons.1 h with rfl|h
   ·refine keep l _ ?_
    unfold ddS
    rw[if_pos hr]
    split
    ·assumption
    ·simp
   ·exact ih _ h
 exact key l [] h
theorem cnt_pref {own:UInt32} {pe:Peer} {pol:Policy} {p:Prefix} {a b:Attrs} (h:cnt own pe pol p a=some b):prefOk p=true:=by
 cases hp:prefOk p with
 | true=>rfl
 | false=>
  have e:byR pol own p (outA pe a)=(noA,false):=by rw[byR,if_pos (by rw[byE,if_pos (.inr (.inl hp))];decide)]
  simp[cnt,isC,e]at h
def chgs (own:UInt32) (pe:Peer) (pol pol':Policy) (m n:List (Prefix × Attrs)):List Change:=
 (sortPs (dd (keysE m ++ keysE n))).filterMap (chg noA (fun p=>(getE m p).bind (cnt own pe pol p)) (fun p=>(getE n p).bind (cnt own pe pol' p)))
end
section
open Go.Proofs.Tryz (prog)
attribute [local irreducible] CallV RoundV aggK
def litsPe (p:Peer):List Lit:=[litW p.sys,litW p.id,litW p.addr,.bool p.inner]
theorem litsPe_inj {p q:Peer}:litsPe p=litsPe q↔p=q:=by
 constructor
 ·intro h
  obtain⟨a,b,c,d⟩:=p
  obtain⟨a',b',c',d'⟩:=q
  simp only[litsPe,List.cons.injEq,Lit.bool.injEq,and_true]at h
  obtain⟨h1,h2,h3,h4⟩:=h
  rw[litW_inj h1,litW_inj h2,litW_inj h3,h4]
 ·exact fun h=>by rw[h]
theorem litPe (p:Peer) {K:List Lit→Prop} (h:K (litsPe p)):litK tab 60 26 (cellsPe p) K:=And.intro (wfW _) (And.intro (wfW _) (And.intro (wfW _) h))
theorem eqlPe (r s:Peer) {K:V→Prop} (h:K (.bool (decide (r=s)))):aggK tab .eql 26 (cellsPe r) (cellsPe s) K:=by
 refine aggK_eql rfl rfl ?_
 refine litPe r ?_
 refine litPe s ?_
 exact⟨decide (r=s),by rw[litsPe_inj];simp,h⟩
end
section
open Go.Proofs.Tryz (prog)
attribute [local irreducible] CallV RoundV aggK
theorem idxEn {fr:Bool} {l:List (Prefix × Attrs)} {i:Nat} (h:i < l.length):(l.map (encEn fr))[(i:Int).toNat]? = some (encEn fr l[i]):=by simp[h]
end
section
open Go.Proofs.Tryz (prog)
attribute [local irreducible] CallV RoundV aggK
def ctR (own:UInt32) (pe:Peer) (pol:Policy) (p:Prefix) (a:Attrs):Attrs × Bool:=
 if hasA a.path own then(noA,false)else if !pe.inner && !decide (firstOf a=pe.sys)then(noA,false)else byR pol own p (outA pe a)
theorem ctR_cnt (own:UInt32) (pe:Peer) (pol:Policy) (p:Prefix) (a:Attrs):cnt own pe pol p a=if(ctR own pe pol p a).2 then some (ctR own pe pol p a).1 else none:=by
 unfold cnt ctR isC
 cases hasA a.path own<;>cases pe.inner<;>cases decide (firstOf a=pe.sys)<;>simp
def countR (r:RibS) (p:Prefix):Option Attrs:=(getE r.said p).bind (cnt r.own r.peer r.pol p)
end
section
open Go.Proofs.Tryz (prog)
attribute [local irreducible] CallV RoundV aggK
theorem keysE_len (l:List (Prefix × Attrs)):(keysE l).length=l.length:=List.length_map _
end
section
open Go.Proofs.Tryz (prog)
attribute [local irreducible] CallV RoundV aggK
def newR (r:RibS) (u:Upd):RibS:={ r with said:=takeS r.said u.gone u.new u.attrs }
end
section
open Go.Proofs.Tryz (prog)
attribute [local irreducible] CallV RoundV aggK
structure RelR (own:UInt32) (pe:Peer) (pol:Policy) (m:List (Prefix × Attrs)) (r:RibS):Prop where
 eown:r.own=own
 epeer:r.peer=pe
 epol:r.pol=pol
 perm:r.said.Perm m
 ris:RisE r.said
 ok:okM own pe pol m
theorem RelR.keys {own:UInt32} {pe:Peer} {pol:Policy} {m:List (Prefix × Attrs)} {r:RibS} (h:RelR own pe pol m r):sortPs (keysE m)=keysE r.said:=by
 have h1:(keysE m).Perm (keysE r.said):=(h.perm.map _).symm
 rw[sortPs_perm h1]
 exact sorted_eq (List.mergeSort_perm _ _) (sortPs_sorted (keysE r.said)) (List.Pairwise.imp (fun h=>Nat.le_of_lt h) h.ris)
theorem RelR.get {own:UInt32} {pe:Peer} {pol:Policy} {m:List (Prefix × Attrs)} {r:RibS} (h:RelR own pe pol m r) {i:Nat} (hi:i < r.said.length):getE m r.said[i].1=some r.said[i].2:=by
 have hn:NodE m:=h.ok.1
 exact mem_getE hn (h.perm.mem_iff.1 (List.getElem_mem hi))
theorem RelR.len {own:UInt32} {pe:Peer} {pol:Policy} {m:List (Prefix × Attrs)} {r:RibS} (h:RelR own pe pol m r):r.said.length=m.length:=h.perm.length_eq
theorem RelR.count {own:UInt32} {pe:Peer} {pol:Policy} {m:List (Prefix × Attrs)} {r:RibS} (h:RelR own pe pol m r) (p:Prefix):countR r p=(getE m p).bind (cnt own pe pol p):=by
 rw[countR,h.eown,h.epeer,h.epol,getE_perm h.ris.nod h.perm]
end
section
open Go.Proofs.Tryz (prog)
theorem right_small {a:Attrs} (h:rightA a=true):smallA a:=by
 simp only[rightA,Bool.and_eq_true,decide_eq_true_eq]at h
 obtain⟨⟨⟨⟨⟨⟨_,h1⟩,_⟩,_⟩,_⟩,h2⟩,_⟩:=h
 simp only[pathOk,Bool.and_eq_true,decide_eq_true_eq,List.all_eq_true]at h1
 refine⟨by omega,fun p hp=>?_,by omega⟩
 have:=h1.2 p hp
 simp only[legOk,Bool.and_eq_true,decide_eq_true_eq]at this
 have:=this.1.1.2
 omega
theorem noA_small:smallA noA:=⟨by simp[noA],by simp[noA],by simp[noA]⟩
theorem byE_zero24 {p:Policy} {own:UInt32} {to:Prefix} {a:Attrs} (h:byE p own to a=0):rightA a=true:=by
 unfold byE at h
 split at h
 ·cases h
 ·rename_i hh
  simp only[not_or]at hh
  simpa using hh.2.2.1
theorem by_right24 {p:Policy} {own:UInt32} {to:Prefix} {a:Attrs} (h:byE p own to a=0) (hok:byOk p own to a=true):rightA (byA p own to a)=true:=by
 have h3:=byE_zero24 h
 unfold byA
 unfold byOk at hok
 cases hf:p.rules.find? (fun r=>fits r to a)with
 | none=>
  rw[hf]at hok
  simp only at hok ⊢
  rw[if_pos hok]
  exact h3
 | some r=>
  rw[hf]at hok
  simp only at hok ⊢
  rw[if_pos hok]
  simp only[passR,Bool.and_eq_true,decide_eq_true_eq]at hok
  have hd:=hok.2
  unfold doneE at hd
  exact(prep_fine hd).2.2.2.1
theorem cnt_small {own:UInt32} {pe:Peer} {pol:Policy} {p:Prefix} {a b:Attrs} (h:cnt own pe pol p a=some b):smallA b:=by
 rw[ctR_cnt]at h
 split at h
 ·rename_i hc
  cases h
  unfold ctR at hc ⊢
  split at hc
  ·cases hc
  ·split at hc
   ·cases hc
   ·rename_i h1 h2
    rw[if_neg h1,if_neg h2]
    unfold byR at hc ⊢
    split at hc
    ·cases hc
    ·rename_i h3
     rw[if_neg h3]
     exact right_small (by_right24 (by simpa using h3) hc)
 ·cases h
theorem okM_of {own:UInt32} {pe:Peer} {pol:Policy} {m:List (Prefix × Attrs)} (hn:NodE m) (hl:m.length≤400) (hs:∀e∈m,smallA e.2):okM own pe pol m:=⟨hn,hl,fun e he=>⟨hs e he,fun b hb=>cnt_small hb⟩⟩
theorem okM_nil (own:UInt32) (pe:Peer) (pol:Policy):okM own pe pol []:=okM_of (by simp[NodE,keysE]) (by simp) (by simp)
theorem take_small {P:Attrs→Prop} {l:List (Prefix × Attrs)} {g new:List Prefix} {a:Attrs} (h:∀e∈l,P e.2) (ha:P a):∀e∈takeM l g new a,P e.2:=by
 have hd:∀(g:List Prefix) (l:List (Prefix × Attrs)),(∀e∈l,P e.2)→∀e∈delsM l g,P e.2:=by
  intro g
  induction g with
  | nil=>intro l h;exact h
  | cons x g ih=>intro l h;exact ih _ fun e he=>h e (List.mem_filter.1 he).1
 have hp:∀(g:List Prefix) (l:List (Prefix × Attrs)),(∀e∈l,P e.2)→∀e∈putsM l g a,P e.2:=by
  intro g
  induction g with
  | nil=>intro l h;exact h
  | cons x g ih=>
   intro l h
   refine ih _ fun e he=>?_
   have he:e∈putE l x a:=he
   by_cases hk:x∈keysE l
   ·rw[putE,if_pos hk]at he
    obtain⟨e',he',rfl⟩:=List.mem_map.1 he
    show P (if e'.1=x then(x,a)else e').2
    by_cases hx:e'.1=x
    ·rw[if_pos hx];exact ha
    ·rw[if_neg hx];exact h e' he'
   ·rw[putE,if_neg hk]at he
    rcases List.mem_append.1 he with he|he
    ·exact h e he
    ·obtain rfl:=List.mem_singleton.1 he
     exact ha
 exact hp new _ (hd g l h)
theorem RelR.take {own:UInt32} {pe:Peer} {pol:Policy} {m:List (Prefix × Attrs)} {r:RibS} (h:RelR own pe pol m r) {u:Upd} (hu:checkU u=0) (ha:smallA u.attrs) (hl:¬ 64 < (newR r u).said.length):RelR own pe pol (takeM m u.gone u.new u.attrs) (newR r u):=by
 have hm:mayU u=true:=by
  unfold checkU at hu
  split at hu
  ·assumption
  ·cases hu
 obtain⟨_,h2,_,_⟩:=mayU_out hm
 have hnd:u.new.Nodup:=nodup_of_strict (strict_of_rise (riseP_iff.1 h2))
 have hp:(takeM m u.gone u.new u.attrs).Perm (newR r u).said:=take_perm h.ris h.perm.symm hnd
 obtain⟨hris,_⟩:=takeS_ok (gone:=u.gone) (a:=u.attrs) h.ris hnd
 exact⟨h.eown,h.epeer,h.epol,hp.symm,hris,okM_of (nod_take h.ok.1) (by rw[hp.length_eq];omega) (take_small (fun e he=>(h.ok.2.2 e he).1) ha)⟩
theorem RelR.clear {own:UInt32} {pe:Peer} {pol:Policy} {m:List (Prefix × Attrs)} {r:RibS} (h:RelR own pe pol m r):RelR own pe pol [] { r with said:=[] }:=
 ⟨h.eown,h.epeer,h.epol,.refl _,by simp[RisE,keysE],okM_nil _ _ _⟩
theorem RelR.new {own:UInt32} {pe:Peer} {pol:Policy} (h:newOk own pe pol=true):RelR own pe pol [] (newS own pe pol):=by
 rw[newS,if_pos h]
 exact⟨rfl,rfl,rfl,.refl _,by simp[RisE,keysE],okM_nil _ _ _⟩
end
section
def Kin (u0 u1:Value):Prop:=(∃x y:UInt32,u0=.int .u32 x.toNat∧u1=.int .u32 y.toNat)∨∃b c,u0=.bool b∧u1=.bool c
theorem Kin.one {u0 u1:Value} (h:Kin u0 u1):u1.oneCell'=true:=by
 rcases h with⟨x,y,_,rfl⟩|⟨b,c,_,rfl⟩<;>rfl
section
variable {G : Gh} {w w' : World} {ad : Addr} {u0 u1 : Value}
def Alike (p q:List Leg):Prop:=p.map (·.ns.length)=q.map (·.ns.length)
theorem Alike.length {p q:List Leg} (h:Alike p q):p.length=q.length:=by simpa[Alike]using congrArg List.length h
theorem Alike.at {p q:List Leg} (h:Alike p q) {i:Nat} (h1:i < p.length) (h2:i < q.length):p[i].ns.length=q[i].ns.length:=by
 have:(p.map (·.ns.length))[i]? = (q.map (·.ns.length))[i]?:=by rw[h]
 simpa[h1,h2]using this
end
end
section
open Go.Proofs.Tryz (prog)
attribute [local irreducible] CallV RoundV VC VH
structure Shp (a x:Attrs):Prop where
 legs:Alike x.path a.path
 tags:x.tags.length=a.tags.length
theorem Shp.refl (a:Attrs):Shp a a:=⟨rfl,rfl⟩
def Bare (s:St):List (Nat × V)→Prop
 | []=>True
 | (i,v) :: r=>(Scalar v∧s.get i=v)∧Bare s r
theorem Bare.out {s:St}:∀{t:List (Nat × V)},Bare s t→∀i,look t i=.any∨(Scalar (look t i)∧s.get i=look t i)
 | [],_,i=>.inl rfl
 | (j,v) :: r,h,i=>by
  have e:look ((j,v) :: r) i=if j=i then v else look r i:=by
   have:=get_put r [] [] 0 0 j v i
   simpa[St.get]using this
  rw[e]
  by_cases hij:j=i
  ·subst hij;rw[if_pos rfl];exact .inr h.1
  ·rw[if_neg hij];exact Bare.out h.2 i
theorem Kin.u32 {G:Gh} {w:World} {n:Nat} {m:Int} {u0 u1:Value} (hn:n < 2 ^ 32) (hm:0≤m∧m < 2 ^ 32) (h0:vr G w (.int .u32 n) u0) (h1:vr G w (.int .u32 m) u1):Kin u0 u1:=by
 left
 refine⟨UInt32.ofNat n,UInt32.ofNat m.toNat,?_,?_⟩
 ·rw[VR.int_iff.1 h0,UInt32.toNat_ofNat_of_lt' (by simpa[UInt32.size]using hn)]
 ·rw[VR.int_iff.1 h1,UInt32.toNat_ofNat_of_lt' (by simp[UInt32.size];omega)]
  congr 1;omega
theorem Kin.bool {G:Gh} {w:World} {b c:Bool} {u0 u1:Value} (h0:vr G w (.bool b) u0) (h1:vr G w (.bool c) u1):Kin u0 u1:=.inr ⟨b,c,VR.bool_iff.1 h0,VR.bool_iff.1 h1⟩
theorem Shp.trans {a b c:Attrs} (h:Shp a b) (k:Shp b c):Shp a c:=⟨k.legs.trans h.legs,k.tags.trans h.tags⟩
end
section
section
variable {G : Gh} {w w' : World} {ad : Addr} {u0 u1 : Value}
structure ShC (y x:Change):Prop where
 legs:Alike y.attrs.path x.attrs.path
 tags:y.attrs.tags.length=x.attrs.tags.length
end
end
section
open Go.Proofs.Tryz (prog)
attribute [local irreducible] CallV RoundV VC VH
def ShL (l x:List Change):Prop:=x.length=l.length∧∀i (h1:i < x.length) (h2:i < l.length),ShC x[i] l[i]
theorem ShL.refl (l:List Change):ShL l l:=⟨rfl,fun i h1 h2=>⟨rfl,rfl⟩⟩
theorem ShL.trans {a b c:List Change} (h:ShL a b) (k:ShL b c):ShL a c:=⟨k.1.trans h.1,fun i h1 h2=>by
 have h3:i < b.length:=by rw[h.1];exact h2
 exact⟨(k.2 i h1 h3).legs.trans (h.2 i h3 h2).legs,(k.2 i h1 h3).tags.trans (h.2 i h3 h2).tags⟩⟩
end
section
open Go.Proofs.Tryz (prog)
attribute [local irreducible] CallV RoundV aggK
def ten24:Prefix:=⟨167772160,8⟩
def pe2:Peer:=⟨2,2,2,false⟩
def polE:Policy:=⟨[],true⟩
theorem rise1_24 {p:Prefix} (h:prefOk p=true):riseP [p]=true:=riseP_iff.2 fun j hj=>by
 obtain rfl:j=0:=by simp at hj;omega
 exact⟨h,fun h0=>absurd h0 (by omega)⟩
theorem rise0_24:riseP []=true:=riseP_iff.2 fun j hj=>by simp at hj
theorem sortPs_self {l:List Prefix} (h:l.Pairwise (fun x y=>pkey x≤pkey y)):sortPs l=l:=sorted_eq (List.mergeSort_perm _ _) (sortPs_sorted l) h
end
section
open Go.Proofs.Tryz (prog)
attribute [local irreducible] CallV RoundV aggK
instance {a:Attrs}:Decidable (smallA a):=inferInstanceAs (Decidable (_∧_∧_))
instance {m:List (Prefix × Attrs)}:Decidable (NodE m):=inferInstanceAs (Decidable (List.Nodup _))
end
section
open Go.ChangeShapes Go.WideShapes
open Go.Proofs.Tryz (prog)
theorem rep_peer:RepOk prog 26 cellsPe:=fun enc w sp fuel cs x h=>by
 have ht:=Go.Proofs.Tryz.underlying26
 obtain⟨xs,n,_,_,hlen,_,_⟩:=DataW.trod_struct ht h
 have hl:cs.length=4:=hlen.trans (by kernel_rfl)
 obtain⟨a,h0,o0⟩:=field_at ht h 0 rfl (rep_u32 Go.Proofs.Tryz.underlying22) rfl (by kernel_rfl)
 obtain⟨b,h1,o1⟩:=field_at ht h 1 rfl (rep_u32 Go.Proofs.Tryz.underlying22) rfl (by kernel_rfl)
 obtain⟨c,h2,o2⟩:=field_at ht h 2 rfl (rep_u32 Go.Proofs.Tryz.underlying22) rfl (by kernel_rfl)
 obtain⟨d,h3,o3⟩:=field_at ht h 3 rfl (rep_bool Go.Proofs.Tryz.underlying4) rfl (by kernel_rfl)
 have j1:=vrs_join (vrs_join (vrs_join (vrs_join vrs_take0 h0 rfl (by omega)) h1 rfl (by omega)) h2 rfl (by omega)) h3 rfl (by omega)
 have k1:=one_join (one_join (one_join (one_join (by simp) o0 rfl (by omega)) o1 rfl (by omega)) o2 rfl (by omega)) o3 rfl (by omega)
 rw[List.take_of_length_le (by omega)]at j1 k1
 exact⟨⟨a,b,c,d⟩,j1,k1⟩
theorem arg_peer:ArgOk prog 26 encPe:=arg_struct Go.Proofs.Tryz.underlying26 rep_peer
theorem read_peer:prog.readableRec 26=true∧26 < prog.types.size:=⟨by kernel_rfl,of_decide_eq_true (by kernel_rfl)⟩
end
section
open Go.Proofs.Tryz (prog)
attribute [local irreducible] CallV RoundV aggK
def laidC (l:List Change) (c:Change):List Change:=l.filter (fun x=>!decide (x.pfx=c.pfx))++ (if c.has then [c]else [])
def laidsC (l d:List Change):List Change:=d.foldl laidC l
abbrev pairC (l:List Change):List (Prefix × Attrs):=l.map fun c=>(c.pfx,c.attrs)
theorem pair_laid (l:List Change) (c:Change):pairC (laidC l c)=delE (pairC l) c.pfx ++ (if c.has then [(c.pfx,c.attrs)]else []):=by
 unfold pairC laidC delE
 rw[List.map_append,List.filter_map]
 congr 1
 split<;>rfl
theorem getE_app {α:Type} (l l':List (Prefix × α)) (q:Prefix):getE (l ++ l') q=(getE l q).or (getE l' q):=by
 unfold getE
 rw[List.find?_append]
 cases l.find? (fun e=>decide (e.1=q))<;>simp
theorem get_laid (l:List Change) (c:Change) (q:Prefix):getE (pairC (laidC l c)) q=if q=c.pfx then(if c.has then some c.attrs else none)else getE (pairC l) q:=by
 rw[pair_laid,getE_app,getE_del]
 by_cases hq:q=c.pfx
 ·rw[if_pos hq,if_pos hq]
  subst hq
  cases c.has<;>simp[getE]
 ·rw[if_neg hq,if_neg hq]
  have h2:getE (if c.has then [(c.pfx,c.attrs)]else []) q=none:=by
   cases c.has with
   | false=>rfl
   | true=>simp[getE,Ne.symm hq]
  rw[h2]
  cases getE (pairC l) q<;>rfl
theorem nod_laid {l:List Change} (h:NodE (pairC l)) (c:Change):NodE (pairC (laidC l c)):=by
 rw[pair_laid]
 unfold NodE keysE
 rw[List.map_append]
 refine List.nodup_append.2 ⟨nod_del h,by split<;>simp,fun a ha b hb e=>?_⟩
 subst e
 have h1:=(keys_del (l:=pairC l)).1 ha
 split at hb
 ·simp at hb;exact h1.1 hb
 ·simp at hb
theorem nod_laids:∀{d l:List Change},NodE (pairC l)→NodE (pairC (laidsC l d))
 | [],_,h=>h
 | c :: d,_,h=>nod_laids (d:=d) (nod_laid h c)
theorem get_laids {z:Attrs} {f g:Prefix→Option Attrs}:∀(ks:List Prefix) (l:List Change) (q:Prefix),getE (pairC (laidsC l (ks.filterMap (chg z f g)))) q=if q∈ks∧f q ≠ g q then g q else getE (pairC l) q
 | [],l,q=>by simp[laidsC]
 | p :: ks,l,q=>by
  by_cases hp:f p=g p
  ·rw[List.filterMap_cons,show chg z f g p=none from if_pos hp]
   have:=get_laids (z:=z) (f:=f) (g:=g) ks l q
   rw[this]
   by_cases hq:q∈ks∧f q ≠ g q
   ·rw[if_pos hq,if_pos ⟨List.mem_cons_of_mem _ hq.1,hq.2⟩]
   ·rw[if_neg hq,if_neg]
    rintro ⟨h1,h2⟩
    rcases List.mem_cons.1 h1 with rfl|h1
    ·exact h2 hp
    ·exact hq ⟨h1,h2⟩
  ·rw[List.filterMap_cons,show chg z f g p=some ⟨p,(g p).isSome,(g p).getD z⟩from if_neg hp]
   have:=get_laids (z:=z) (f:=f) (g:=g) ks (laidC l ⟨p,(g p).isSome,(g p).getD z⟩) q
   show getE (pairC (laidsC (laidC l ⟨p,(g p).isSome,(g p).getD z⟩) (ks.filterMap (chg z f g)))) q=_
   rw[this,get_laid]
   by_cases hq:q=p
   ·subst hq
    have e1:q∈q :: ks∧f q ≠ g q:=⟨List.mem_cons_self,hp⟩
    rw[if_pos e1,if_pos rfl]
    split
    ·rfl
    ·cases g q<;>rfl
   ·rw[if_neg hq]
    by_cases h:q∈ks∧f q ≠ g q
    ·rw[if_pos h,if_pos ⟨List.mem_cons_of_mem _ h.1,h.2⟩]
    ·rw[if_neg h,if_neg]
     rintro ⟨h1,h2⟩
     rcases List.mem_cons.1 h1 with rfl|h1
     ·exact hq rfl
     ·exact h ⟨h1,h2⟩
def cntAt (own:UInt32) (pe:Peer) (pol:Policy) (m:List (Prefix × Attrs)) (q:Prefix):Option Attrs:=(getE m q).bind (cnt own pe pol q)
theorem cntAt_key {own:UInt32} {pe:Peer} {pol:Policy} {m:List (Prefix × Attrs)} {q:Prefix} (h:cntAt own pe pol m q ≠ none):q∈keysE m∧prefOk q=true:=by
 unfold cntAt at h
 cases hx:getE m q with
 | none=>rw[hx]at h;exact absurd rfl h
 | some a=>
  rw[hx]at h
  cases hcc:cnt own pe pol q a with
  | none=>exact absurd hcc h
  | some b=>exact⟨getE_key hx,cnt_pref hcc⟩
theorem laid_chgs {own:UInt32} {pe:Peer} {pol:Policy} {m n:List (Prefix × Attrs)} {l:List Change} (h:∀q,getE (pairC l) q=cntAt own pe pol m q) (q:Prefix):getE (pairC (laidsC l (chgs own pe pol pol m n))) q=cntAt own pe pol n q:=by
 unfold chgs
 rw[get_laids]
 by_cases he:cntAt own pe pol m q=cntAt own pe pol n q
 ·rw[if_neg (fun hh=>hh.2 he),h,he]
 ·rw[if_pos]
  ·rfl
  refine⟨mem_sortPs.2 ?_,he⟩
  by_cases hm:cntAt own pe pol m q=none
  ·obtain⟨h1,h2⟩:=cntAt_key (m:=n) (q:=q) (fun e=>he (hm.trans e.symm))
   exact mem_dd (by simp[h1]) h2
  ·obtain⟨h1,h2⟩:=cntAt_key hm
   exact mem_dd (by simp[h1]) h2
theorem cnt_seen {own:UInt32} {pe:Peer} {pol:Policy} {m:List (Prefix × Attrs)} {l:List Change} (hn:NodE m) (hl:NodE (pairC l)) (h:∀q,getE (pairC l) q=cntAt own pe pol m q):((sortPs (keysE m)).filter fun q=>(cntAt own pe pol m q).isSome).length=l.length:=by
 have h1:(sortPs (keysE m)).Nodup:=(List.mergeSort_perm _ _).nodup_iff.2 hn
 have hp:((sortPs (keysE m)).filter fun q=>(cntAt own pe pol m q).isSome).Perm (keysE (pairC l)):=by
  refine(List.perm_ext_iff_of_nodup (h1.filter _) hl).2 fun q=>?_
  rw[List.mem_filter,mem_sortPs]
  constructor
  ·rintro ⟨_,h3⟩
   rw[← h]at h3
   obtain⟨a,ha⟩:=Option.isSome_iff_exists.1 h3
   exact getE_key ha
  ·intro hk
   obtain⟨a,ha⟩:=key_getE hk
   rw[h]at ha
   exact⟨(cntAt_key (by rw[ha];simp)).1,by rw[ha];rfl⟩
 rw[hp.length_eq]
 simp[keysE]
end
section
open Go.Proofs.Tryz (prog)
attribute [local irreducible] CallV RoundV aggK
theorem bodyB_parts (u:Upd):(bodyB u).length=4 + (prefsB u.gone).length + (aA u.attrs).length + (prefsB u.new).length:=by
 simp only[bodyB,partsU,gB,aB,List.flatten_cons,List.flatten_nil,List.length_append,List.append_nil,twoB,List.length_cons,List.length_nil]
 omega
theorem checkU_zero {u:Upd} (h:checkU u=0):mayU u=true∧(bodyB u).length≤493:=by
 unfold checkU at h
 split at h
 ·rename_i hm
  split at h
  ·cases h
  ·exact⟨hm,by omega⟩
 ·cases h
structure AddsI (pe:Peer) (pol:Policy) (m:List (Prefix × Attrs)) (l:List Change):Prop where
 ok:okM 1 pe pol m
 few:m.length≤64
 cnt:∀q,getE (pairC l) q=cntAt 1 pe pol m q
 nod:NodE (pairC l)
theorem AddsI.len {pe:Peer} {pol:Policy} {m:List (Prefix × Attrs)} {l:List Change} (h:AddsI pe pol m l):l.length≤64:=by
 have:=cnt_seen h.ok.1 h.nod h.cnt
 have h2:=List.length_filter_le (fun q=>(cntAt 1 pe pol m q).isSome) (sortPs (keysE m))
 have h3:(sortPs (keysE m)).length=m.length:=by rw[sortPs_len,keysE_len]
 have:=h.few
 omega
theorem AddsI.nil {pe:Peer} {pol:Policy}:AddsI pe pol [] []:=⟨okM_nil _ _ _,by simp,fun q=>rfl,by simp[NodE,keysE]⟩
theorem AddsI.take {pe:Peer} {pol:Policy} {m:List (Prefix × Attrs)} {l:List Change} (h:AddsI pe pol m l) {g n:List Prefix} {a:Attrs} (ha:smallA a) (h64:¬ 64 < (takeM m g n a).length):AddsI pe pol (takeM m g n a) (laidsC l (chgs 1 pe pol pol m (takeM m g n a))):=
 ⟨okM_of (nod_take h.ok.1) (by omega) (take_small (fun e he=>(h.ok.2.2 e he).1) ha),by omega,laid_chgs h.cnt,nod_laids h.nod⟩
end
section
section
variable {P : Program} {T : Tab} {F : Fence} {N : Nat}
def Dfr2 (w0:World) (G1 G2:Gh) (w:World) (D D':List Deferred):Prop:=
 ∃ms:List Nat,D'=(ms.map fun r=>{ target:=.collected r,args:=#[] })++ D∧(∀r∈ms,w0.heap.size≤r∧w.heap[r]? = some (.deferred (some []))∧((∀b,G1.ι b ≠ some r)∧¬ G1.amb r)∧(∀b,G2.ι b ≠ some r)∧¬ G2.amb r)∧ms.Pairwise (· ≠ ·)
def PostLo (N base:Nat) (G:Gh) (w:World) (D:List Deferred) (K:Ex→Heap→Nat→St→Prop) (e:Exit) (a':Act) (w':World):Prop:=
 ∃e' h1 nx1 G1 s2 G2,e=Ex.to e'∧K e' h1 nx1 s2∧Low base G w G1 h1 nx1 G2.B w'∧Sim G2 N s2 a' w'∧Dfr2 w G1 G2 w' D a'.defers∧(∀b c,G2.ι b=some c→G2.B≤c)∧∀c,G2.amb c→G2.B≤c∨G1.amb c
def VLo (P:Program) (F:Fence) (N base:Nat) (c:Code) (s:St) (K:Ex→Heap→Nat→St→Prop):Prop:=
 ∀(n:Nat) (G:Gh) (a:Act) (w:World),Sim G N s a w→base≤s.nx→c.wpIn F n P (PostLo N base G w a.defers K) a w
theorem PostLo.evo {base:Nat} {G Ga:Gh} {w wa:World} {D D1:List Deferred} {K:Ex→Heap→Nat→St→Prop} {e:Exit} {a':Act} {w':World} (h:PostLo N base Ga wa D1 K e a' w') (he:Evo base G w Ga wa) (hd:Dfr w Ga wa D D1):PostLo N base G w D K e a' w':=by
 obtain⟨e',h1,nx1,G1,s2,G2,q1,q2,q3,q4,q5,q6,q7⟩:=h
 refine⟨e',h1,nx1,G1,s2,G2,q1,q2,⟨q3.hr,he.trans q3.evo,q3.nx,q3.amb,q3.lt,Nat.le_trans he.size q3.B⟩,q4,?_,q6,q7⟩
 obtain⟨ms,d1,d2,d3⟩:=hd
 obtain⟨ms2,k1,k2,k3⟩:=q5
 have hlt:∀r∈ms,r < wa.heap.size:=fun r hr=>lt_of_heap (d2 r hr).2.1
 refine⟨ms2 ++ ms,by rw[k1,d1];simp,fun r hr=>?_,List.pairwise_append.2 ⟨k3,d3,fun a ha b hb e=>?_⟩⟩
 ·rcases List.mem_append.1 hr with hr|hr
  ·have:=k2 r hr
   exact⟨Nat.le_trans he.size this.1,this.2⟩
  ·obtain⟨z1,z2,z3,z4⟩:=d2 r hr
   have hl:=hlt r hr
   have g1:(∀b,G1.ι b ≠ some r)∧¬ G1.amb r:=by
    refine⟨fun b hb=>?_,fun ha=>?_⟩
    ·obtain⟨b',hb'⟩:=q3.evo.idn b r hb hl
     exact z3 b' hb'
    ·rcases q3.evo.ambn r ha hl with h|⟨b,h⟩
     ·exact z4 h
     ·exact z3 b h
   refine⟨z1,(q3.evo.keepu r hl z3).trans z2,g1,fun b hb=>?_,fun ha=>?_⟩
   ·have:=q6 b r hb;have:=q3.B;omega
   ·rcases q7 r ha with h|h
    ·have:=q3.B;omega
    ·exact g1.2 h
 ·have:=(k2 a ha).1
  have:=hlt b hb
  omega
theorem vlo_seq {base:Nat} {x y:Code} {s:St} {K:Ex→Heap→Nat→St→Prop} (h:VC P F N base x s (thenK (fun s'=>VLo P F N base y s' K) (fun _ _=>False))):VLo P F N base (.seq x y) s K:=by
 intro n G a w hs hb
 refine wpIn_seq (wpIn_mono (h n G a w hs hb) ?_)
 rintro e a' w' ⟨e',s',G',rfl,hq,hs',he,hb',hd⟩
 cases e' with
 | normal=>exact wpIn_mono (hq n G' a' w' hs' hb') fun e a2 w2 hp=>hp.evo he hd
 | exit id=>exact hq.elim
 | goto l=>exact hq.elim
 | ret=>exact hq.elim
theorem CallB.tidy {f:FuncId} {args:List V} {h:Heap} {nx:Nat} {R R':V→Heap→Nat→Prop} (hc:CallB P f args h nx R) (hr:∀v h' nx',R v h' nx'→∃h2,(∀b,hget h2 b=hget h' b)∧R' v h2 nx'):CallB P f args h nx R':=
 ⟨hc.1,fun G w us hh hv=>(hc.2 G w us hh hv).mono fun e w' ⟨u,v,h',nx',G',B',h1,h2,h3,h4⟩=>by
  obtain⟨h2',q1,q2⟩:=hr _ _ _ h2
  exact⟨u,v,h2',nx',G',B',h1,q2,h3.congr q1 (Nat.le_refl _),h4⟩⟩
theorem vlo_weak {base:Nat} {c:Code} {s s':St} {K:Ex→Heap→Nat→St→Prop} (hw:Wk base N s s') (h:VLo P F N base c s' K):VLo P F N base c s K:=fun n G a w hs hb=>by
 obtain⟨G',h1,h2,h3⟩:=hw G a w hs hb
 exact wpIn_mono (h n G' a w h1 h3) fun e a' w' hp=>hp.evo h2 (Dfr.of_eq rfl)
structure PutOps (T:Tab) (N:Nat) (ops:Array Oper) (x y d0 d1 d2 d3 off:Nat):Prop where
 ex:∃o0 o1 o2 o3 o4 st f ft tv fs,ops=#[o0,o1,o2,o3,o4]∧(o0.op=.move (.tmp x)∧o1.op=.move (.tmp y)∧o2.op=.nilCheck (.tmp d0)∧o3.op=.fieldAddr st (.tmp d2) f∧o4.op=.store tv (.tmp d3) (.tmp d1)) ∧
  (o0.dst=some d0∧o1.dst=some d1∧o2.dst=some d2∧o3.dst=some d3∧o4.dst=none)∧(o0.guard=none∧o1.guard=none∧o2.guard=none∧o3.guard=none∧o4.guard=none) ∧
  (T st).k=.struct fs∧nth (0,0) fs f=(off,ft)∧f < fs.length∧(T ft).k ≠ .other∧(T ft).size ≠ 0∧(T tv).k ≠ .other∧(T tv).size=1
 d:d0 < N∧d1 < N∧d2 < N∧d3 < N∧x ≠ d0∧y ≠ d0∧d1 ≠ d0∧d2 ≠ d1∧d3 ≠ d1∧d3 ≠ d2∧d2 ≠ d0∧d3 ≠ d0
theorem wpOps_value {ops:Array Oper} {i:Nat} {rest:List Nat} {o:Oper} {n:Nat} {a:Act} {w w':World} {v:Value} (hF:FW F) (ho:ops[i]? = some o) (hg:o.guard=none) (hnd:∀c,o.op ≠ .defer c) (hr:(execOp a.eval o).run P w=.ok (.value v) w') (Q:Exit→Act→World→Prop) :
  wpOpsIn F n P ops Q (i :: rest) a w↔wpOpsIn F n P ops Q rest (a.put o.dst v) w':=by
 have hw:Region.wanted o (yielded ops a.tmps)=true:=by simp[Region.wanted,hg]
 simp only[wpOpsIn,ho,hw,if_true,Oper.wpIn]
 rw[Oper.semAt_eq _ _ _ hnd,hr,Oper.uponIn_value]
 exact⟨fun h=>h.2,fun h=>⟨fun f _=>hF.fn f,h⟩⟩
theorem wpOps_skip {ops:Array Oper} {i:Nat} {rest:List Nat} {o:Oper} {n:Nat} {a:Act} {w w':World} (hF:FW F) (ho:ops[i]? = some o) (hg:o.guard=none) (hnd:∀c,o.op ≠ .defer c) (hr:(execOp a.eval o).run P w=.ok .skip w') (Q:Exit→Act→World→Prop) :
  wpOpsIn F n P ops Q (i :: rest) a w↔wpOpsIn F n P ops Q rest (a.put o.dst undef) w':=by
 have hw:Region.wanted o (yielded ops a.tmps)=true:=by simp[Region.wanted,hg]
 simp only[wpOpsIn,ho,hw,if_true,Oper.wpIn]
 rw[Oper.semAt_eq _ _ _ hnd,hr,Oper.uponIn_skip]
 exact⟨fun h=>h.2,fun h=>⟨fun f _=>hF.fn f,h⟩⟩
theorem put_ops (hT:TabOk P T) (hF:FW F) {ops:Array Oper} {x y d0 d1 d2 d3 off:Nat} (hp:PutOps T N ops x y d0 d1 d2 d3 off) {n:Nat} {a:Act} {w:World} {c:Nat} {v old:Value} (ha:a.tmps.size=N) (hx:a.tmps.getD x undef=.pointer (some ⟨c,0,none⟩))
  (hy:a.tmps.getD y undef=v) (hone:v.oneCell'=true) (hcl:v.cells=#[v]) (hcell:w.cell? ⟨c,off,none⟩=some old) (hfz:w.frozen? ⟨c,off,none⟩=false) :
  ∃a',(∀Q,wpOpsIn F n P ops Q [0,1,2,3,4] a w↔Q .normal a' (w.setCell ⟨c,off,none⟩ v))∧a'.defers=a.defers∧a'.tmps.size=N∧∀i,i ≠ d0→i ≠ d1→i ≠ d2→i ≠ d3→a'.tmps.getD i undef=a.tmps.getD i undef:=by
 obtain⟨⟨o0,o1,o2,o3,o4,st,f,ft,tv,fs,rfl,⟨e0,e1,e2,e3,e4⟩,⟨q0,q1,q2,q3,q4⟩,⟨g0,g1,g2,g3,g4⟩,hk,hnth,hf,hft,hfz0,htv,hsz⟩,hd0,hd1,hd2,hd3,hxd,hyd,h10,h21,h31,h32,h20,h30⟩:=hp
 obtain⟨fields,fd,hu,hfd,he⟩:=hT.field hk (by simpa[Nat.blt_eq]using hf)
 have hoff:fd.offset=off:=by rw[hnth]at he;exact(Prod.mk.inj he).1.symm▸rfl
 have hty:fd.type=ft:=by rw[hnth]at he;exact(Prod.mk.inj he).2.symm▸rfl
 subst hty
 subst hoff
 have nd:∀{o:Oper} {p:Op},o.op=p→(∀c,p ≠ .defer c)→∀c,o.op ≠ .defer c:=fun h1 h2 c e=>h2 c (h1▸e)
 have r0:∀w:World,(execOp a.eval o0).run P w=.ok (.value (.pointer (some ⟨c,0,none⟩))) w:=fun w=>by
  simp only[execOp,e0,Act.eval,hx,Sem.run_pure]
 have h:=fun Q=>wpOps_value (F:=F) (n:=n) (ops:=#[o0,o1,o2,o3,o4]) (o:=o0) (i:=0) (rest:=[1,2,3,4]) hF rfl g0 (nd e0 (by simp)) (r0 w) Q
 rw[q0]at h
 have s0:(a.put (some d0) (.pointer (some ⟨c,0,none⟩))).tmps.size=N:=by simp[Act.put,ha]
 have gy:(a.put (some d0) (.pointer (some ⟨c,0,none⟩))).tmps.getD y undef=v:=by rw[put_getD (by omega),if_neg (Ne.symm hyd),hy]
 have gx:(a.put (some d0) (.pointer (some ⟨c,0,none⟩))).tmps.getD d0 undef=.pointer (some ⟨c,0,none⟩):=by rw[put_getD (by omega),if_pos rfl]
 have ho:∀i,i ≠ d0→(a.put (some d0) (.pointer (some ⟨c,0,none⟩))).tmps.getD i undef=a.tmps.getD i undef:=fun i hi=>by rw[put_getD (by omega),if_neg (Ne.symm hi)]
 have df0:(a.put (some d0) (.pointer (some ⟨c,0,none⟩))).defers=a.defers:=rfl
 generalize a.put (some d0) (.pointer (some ⟨c,0,none⟩))=a0 at h s0 gy gx ho df0
 have r1:(execOp a0.eval o1).run P w=.ok (.value v) w:=by
  simp only[execOp,e1,Act.eval,gy,Sem.run_pure]
 have h:=fun Q=>(h Q).trans <| wpOps_value (F:=F) (n:=n) (ops:=#[o0,o1,o2,o3,o4]) (o:=o1) (i:=1) (rest:=[2,3,4]) hF rfl g1 (nd e1 (by simp)) r1 Q
 rw[q1]at h
 have s1:(a0.put (some d1) v).tmps.size=N:=by simp[Act.put,s0]
 have gy1:(a0.put (some d1) v).tmps.getD d1 undef=v:=by rw[put_getD (by omega),if_pos rfl]
 have gx1:(a0.put (some d1) v).tmps.getD d0 undef=.pointer (some ⟨c,0,none⟩):=by rw[put_getD (by omega),if_neg h10,gx]
 have ho1:∀i,i ≠ d0→i ≠ d1→(a0.put (some d1) v).tmps.getD i undef=a.tmps.getD i undef:=fun i h1 h2=>by rw[put_getD (by omega),if_neg (Ne.symm h2),ho i h1]
 have df1:(a0.put (some d1) v).defers=a.defers:=df0
 generalize a0.put (some d1) v=a1 at h s1 gy1 gx1 ho1 df1
 have r2:(execOp a1.eval o2).run P w=.ok (.value (.pointer (some ⟨c,0,none⟩))) w:=by
  simp only[execOp,e2,Act.eval,gx1,Sem.run_pure]
 have h:=fun Q=>(h Q).trans <| wpOps_value (F:=F) (n:=n) (ops:=#[o0,o1,o2,o3,o4]) (o:=o2) (i:=2) (rest:=[3,4]) hF rfl g2 (nd e2 (by simp)) r2 Q
 rw[q2]at h
 have s2:(a1.put (some d2) (.pointer (some ⟨c,0,none⟩))).tmps.size=N:=by simp[Act.put,s1]
 have gy2:(a1.put (some d2) (.pointer (some ⟨c,0,none⟩))).tmps.getD d1 undef=v:=by rw[put_getD (by omega),if_neg h21,gy1]
 have gx2:(a1.put (some d2) (.pointer (some ⟨c,0,none⟩))).tmps.getD d2 undef=.pointer (some ⟨c,0,none⟩):=by rw[put_getD (by omega),if_pos rfl]
 have ho2:∀i,i ≠ d0→i ≠ d1→i ≠ d2→(a1.put (some d2) (.pointer (some ⟨c,0,none⟩))).tmps.getD i undef=a.tmps.getD i undef:=fun i h1 h2 h3=>by rw[put_getD (by omega),if_neg (Ne.symm h3),ho1 i h1 h2]
 have df2:(a1.put (some d2) (.pointer (some ⟨c,0,none⟩))).defers=a.defers:=df1
 generalize a1.put (some d2) (.pointer (some ⟨c,0,none⟩))=a2 at h s2 gy2 gx2 ho2 df2
 have r3:(execOp a2.eval o3).run P w=.ok (.value (.pointer (some ⟨c,fd.offset,none⟩))) w:=by
  have run:(Instr.fieldAt st (.pointer (some ⟨c,0,none⟩)) f).run P w=.ok (.pointer (some ⟨c,fd.offset,none⟩)) w:=by
   simp[Instr.fieldAt,run_underlying hu,hfd,Instr.sureAddr,fieldPlace,hT.sizeOf hft,hfz0,add_none]
  simp only[execOp,e3,Act.eval,gx2,Sem.run_bind,run,Result.andThen_ok,Sem.run_pure]
 have h:=fun Q=>(h Q).trans <| wpOps_value (F:=F) (n:=n) (ops:=#[o0,o1,o2,o3,o4]) (o:=o3) (i:=3) (rest:=[4]) hF rfl g3 (nd e3 (by simp)) r3 Q
 rw[q3]at h
 have s3:(a2.put (some d3) (.pointer (some ⟨c,fd.offset,none⟩))).tmps.size=N:=by simp[Act.put,s2]
 have gy3:(a2.put (some d3) (.pointer (some ⟨c,fd.offset,none⟩))).tmps.getD d1 undef=v:=by rw[put_getD (by omega),if_neg h31,gy2]
 have gx3:(a2.put (some d3) (.pointer (some ⟨c,fd.offset,none⟩))).tmps.getD d3 undef=.pointer (some ⟨c,fd.offset,none⟩):=by rw[put_getD (by omega),if_pos rfl]
 have ho3:∀i,i ≠ d0→i ≠ d1→i ≠ d2→i ≠ d3→(a2.put (some d3) (.pointer (some ⟨c,fd.offset,none⟩))).tmps.getD i undef=a.tmps.getD i undef:=fun i h1 h2 h3 h4=>by rw[put_getD (by omega),if_neg (Ne.symm h4),ho2 i h1 h2 h3]
 have df3:(a2.put (some d3) (.pointer (some ⟨c,fd.offset,none⟩))).defers=a.defers:=df2
 generalize a2.put (some d3) (.pointer (some ⟨c,fd.offset,none⟩))=a3 at h s3 gy3 gx3 ho3 df3
 have hst:(store ⟨c,fd.offset,none⟩ v .plain).run P w=.ok () (w.setCell ⟨c,fd.offset,none⟩ v):=by
  rw[run_store P w _ v .plain hone,hcell,hfz]
  rfl
 have r4:(execOp a3.eval o4).run P w=.ok .skip (w.setCell ⟨c,fd.offset,none⟩ v):=by
  simp only[execOp,e4,Act.eval,gx3,gy3,Instr.storeAt,Instr.sureAddr,storeVar,Sem.run_bind,Sem.run_pure,Result.andThen_ok,hT.sizeOf htv,hcl,hsz,List.size_toArray,List.length_cons,List.length_nil,ne_eq,not_true_eq_false,if_false,storeCells,add_none,Nat.add_zero,hst]
 have h:=fun Q=>(h Q).trans (wpOps_skip (F:=F) (n:=n) (ops:=#[o0,o1,o2,o3,o4]) (o:=o4) (i:=4) (rest:=[]) hF rfl g4 (nd e4 (by simp)) r4 Q)
 rw[q4]at h
 exact⟨a3,h,df3,s3,ho3⟩
theorem vlo_put (hT:TabOk P T) (hm:P.follows .mixedOrders=true) (hF:FW F) {base idX idL idR b0 x y z d0 d1 d2 d3 off nx2:Nat} {opsX opsL opsR:Array Oper} {s:St} {K:Ex→Heap→Nat→St→Prop} {fr:Bool} {ty:TypeId} {cells:List V} {vy vz:V}
  (hx:s.get x=.ptr b0 0) (hy:s.get y=vy) (hvy:Free vy∧Cold vy) (hy1:vy.one=true) (hb0:hget s.h b0=some (.var fr ty cells)) (hcells:∀v∈cells,Free v∧Cold v) (hoff:off < cells.length)
  (hpo:PutOps T N opsL x y d0 d1 d2 d3 off) (hz:z ≠ d0∧z ≠ d1∧z ≠ d2∧z ≠ d3) (hvz:Free vz∧Fresh vz)
  (h:∀u:Nat→Value,drawK P T N opsX.toList opsX.toList ⟨[(x,.pin (u x) (.iptr false cells)),(y,.pin (u y) vy)],[],0⟩ [] (fun fps s2=>drawOk opsX.toList fps=true∧(∃q,s2.get x=.pin (u x) q)∧(∃q,s2.get y=.pin (u y) q)∧Wk 0 N s2 ⟨[(z,vz)],[],nx2⟩))
  (hL:runOps P T N opsL.toList opsL.toList ⟨[(x,.ptr b0 0),(y,vy)],s.h,s.nx⟩ (fun s3=>runOps P T N opsR.toList opsR.toList ⟨[(z,vz)],[],0⟩ (fun s4=>K .ret s3.h s3.nx s4))) :
  VLo P F N base (.seq (.region idX opsX true) (.seq (.region idL opsL false) (.seq (.region idR opsR false) .ret))) s K:=by
 intro n G a w hs hb
 let B:=w.heap.size
 let G2:Gh:=⟨fun _=>none,fun c=>G.amb c∨∃b blk,hget s.h b=some blk∧G.ι b=some c,B⟩
 have hfc:∀{v:V} {u:Value},Free v→Cold v→vr G w v u→vr G2 w v u:=fun hf hc hv=>
  hf _ _ _ _ _ (hc _ _ _ (imm G2 w) _ (fun a u hi=>⟨hi.1,.inl hi.2.1,(fun h=>by cases h),hi.2.2.2⟩) hv)
 have ht:Two base G w G s.h s.nx G2 w:=⟨hs.hr,Evo.refl _ _ _,hb,fun c hc=>⟨hs.hr.amb_lt c hc,.inl hc⟩,hs.hr.lt,fun b blk c q1 q2=>.inr ⟨b,blk,q1,q2⟩,Nat.le_refl _,(fun b c hc _=>by cases hc),fun c hc _=>by
  rcases hc with hc|⟨b,_,_,hc⟩
  ·exact .inl hc
  ·exact .inr ⟨b,hc⟩⟩
 have hxv:=hs.tmp x
 rw[hx]at hxv
 have hyv:=hs.tmp y
 rw[hy]at hyv
 obtain⟨c,hc,hux⟩:∃c,G.ι b0=some c∧a.tmps.getD x undef=.pointer (some ⟨c,0,none⟩):=by
  generalize a.tmps.getD x undef=q at hxv
  cases hxv with
  | ptr _ _ c hc=>exact⟨c,hc,rfl⟩
 have hown:Holds G w b0 fr true ty cells:=hs.hr.own b0 _ hb0
 obtain⟨c',cs,g1,g2,g3,g4,g5,g6,g7⟩:=hown
 rw[hc]at g1
 obtain rfl:c=c':=Option.some.inj g1
 have hip:vr G2 w (.iptr false cells) (a.tmps.getD x undef):=by
  rw[hux]
  refine .iptr false cells ⟨c,0,none⟩ (fun j=>(cs[j]?).getD undef) rfl (fun j v hj=>?_) (fun j v hj=>?_)
  ·obtain⟨u,hu,h1,_⟩:=g6 j v hj
   have e:(cs[j]?).getD undef=u:=by rw[hu];rfl
   rw[e]
   exact⟨by simp[rd,World.cell?,g2,hu],.inr ⟨b0,_,hb0,hc⟩,(fun h=>by cases h),fun _=>h1⟩
  ·obtain⟨u,hu,_,hv⟩:=g6 j v hj
   have e:(cs[j]?).getD undef=u:=by rw[hu];rfl
   rw[e]
   obtain⟨z1,z2⟩:=hcells v (List.mem_of_getElem? hj)
   exact hfc z1 z2 hv
 have hs2:Sim G2 N ⟨[(x,.pin (a.tmps.getD x undef) (.iptr false cells)),(y,.pin (a.tmps.getD y undef) vy)],[],0⟩ a w:=by
  refine⟨hs.size,fun i=>?_,⟨fun c hc=>?_,Nat.le_refl _,fun _ _=>rfl,fun b blk h=>by simp[hget]at h,fun b b' k k' c h=>by simp[hget]at h,fun b k c h=>by simp[hget]at h,(fun b c h=>by cases h),fun b k h=>by simp[hget]at h,hs.hr.gl.to (fun _ h=>.inl h) (fun _ _=>rfl)⟩⟩
  ·show vr G2 w (look [(x,_),(y,_)] i) _
   rw[look_cons]
   by_cases h1:x=i
   ·subst h1;rw[if_pos rfl];exact .pin _ _ hip
   ·rw[if_neg h1,look_cons]
    by_cases h2:y=i
    ·subst h2;rw[if_pos rfl];exact .pin _ _ (hfc hvy.1 hvy.2 hyv)
    ·rw[if_neg h2];exact .any _
  ·rcases hc with hc|⟨b,_,_,hc⟩
   ·exact hs.hr.amb_lt c hc
   ·exact hs.hr.lt b c hc
 have hgl:∀p∈glob,G.amb p.1:=fun p hp=>(hs.hr.gl p hp).1
 have hdraw:=h (fun i=>a.tmps.getD i undef)
 refine wpIn_seq (wp_draw_cut hT hm hF hs2 (Nat.zero_le _) (m:=opsX.toList.length) (Nat.le_refl _) (KS:=fun s2=>(∃q,s2.get x=.pin (a.tmps.getD x undef) q)∧(∃q,s2.get y=.pin (a.tmps.getD y undef) q)∧Wk 0 N s2 ⟨[(z,vz)],[],nx2⟩) (base:=0) ?_ fun s2 a1 w1 G2a hk hs1 hb1 he hd=>?_)
 ·rw[List.take_length]
  have e:(fun(fps:List FP) (s2:St)=>drawOk opsX.toList fps=true∧(∃q,s2.get x=.pin (a.tmps.getD x undef) q)∧(∃q,s2.get y=.pin (a.tmps.getD y undef) q)∧Wk 0 N s2 ⟨[(z,vz)],[],nx2⟩)=fun fps s2=>(drawOkN opsX.toList opsX.toList.length fps && tailOk opsX.toList opsX.toList.length)=true∧(∃q,s2.get x=.pin (a.tmps.getD x undef) q)∧(∃q,s2.get y=.pin (a.tmps.getD y undef) q)∧Wk 0 N s2 ⟨[(z,vz)],[],nx2⟩:=by
   funext fps s2
   rw[drawOk_eq]
  rw[← e]
  exact hdraw
 obtain⟨⟨qx,hpx⟩,⟨qy,hpy⟩,hwk⟩:=hk
 have pinned:∀{i:Nat} {q:V},s2.get i=.pin (a.tmps.getD i undef) q→a1.tmps.getD i undef=a.tmps.getD i undef:=by
  intro i q hq
  have hi:=hs1.tmp i
  rw[hq]at hi
  generalize a1.tmps.getD i undef=u1 at hi
  cases hi with
  | pin=>rfl
 have ex:=pinned hpx
 have ey:=pinned hpy
 have t1:=ht.step he
 have ag1:Agr G G s.h w w1:=⟨he.size,rfl,rfl,fun _ h=>h,fun c hc=>he.keep c (ht.amb c hc).2,fun b blk c hb hc=>he.keep c (ht.own b blk c hb hc),fun b c m _ hm=>he.csz c m hm⟩
 obtain⟨G2b,hs1b,he2,_⟩:=hwk G2a a1 w1 hs1 (Nat.zero_le _)
 have t2:=t1.step he2
 have hBa:G2b.B=B:=by rw[he2.B,he.B]
 have e0:List.range' opsX.toList.length (opsX.toList.length - opsX.toList.length)=[]:=by simp
 rw[e0]
 show wpOpsIn F n P opsX _ [] a1 w1
 refine wpIn_seq (wpIn_region ?_)
 -- the store,below the mark
 have hsL:Sim G N ⟨[(x,.ptr b0 0),(y,vy)],s.h,s.nx⟩ a1 w1:=by
  refine⟨hs1.size,fun i=>?_,t1.hr⟩
  show vr G w1 (look [(x,_),(y,_)] i) _
  rw[look_cons]
  by_cases h1:x=i
  ·subst h1;rw[if_pos rfl,ex];exact ag1.vr hxv
  ·rw[if_neg h1,look_cons]
   by_cases h2:y=i
   ·subst h2;rw[if_pos rfl,ey];exact ag1.vr hyv
   ·rw[if_neg h2];exact .any _
 have hcw:w1.heap[c]? = some (.cells cs ty (0,0)):=(ag1.own b0 _ c hb0 hc).trans g2
 have hjl:off < cs.size:=Nat.lt_of_lt_of_le hoff g3
 have hcell:w1.cell? ⟨c,off,none⟩=some cs[off]:=by simp[World.cell?,hcw,hjl]
 have hfz:w1.frozen? ⟨c,off,none⟩=false:=by simp[World.frozen?,hcw]
 have hone:(a1.tmps.getD y undef).oneCell'=true:=VR.one' hy1 (by rw[ey];exact hyv)
 have hcl:(a1.tmps.getD y undef).cells=#[a1.tmps.getD y undef]:=VR.one_cells hy1 (by rw[ey];exact hyv)
 have hlist:List.range opsL.size=[0,1,2,3,4]:=by
  obtain⟨⟨o0,o1,o2,o3,o4,_,_,_,_,_,rfl,_⟩,_⟩:=hpo
  rfl
 obtain⟨a2,hiff,hd2,hsz2,ho2⟩:=put_ops hT hF (n:=n) hpo hs1.size (by rw[ex];exact hux) rfl hone hcl hcell hfz
 rw[hlist,hiff]
 have hrun:=runOps_ok (n:=n) hT hF (rest:=opsL.toList) (all:=opsL.toList) (k:=0) (base:=base) (Q:=fun e a' w'=>e=.normal∧∃s3 G',runOps P T N opsR.toList opsR.toList ⟨[(z,vz)],[],0⟩ (fun s4=>K .ret s3.h s3.nx s4)∧Sim G' N s3 a' w'∧Evo base G w1 G' w'∧base≤s3.nx) (fun i=>by simp) hL hsL hb
  (fun s' a' w' G' q1 q2 q3 q4 q5=>⟨rfl,s',G',q1,q2,q3,q4⟩)
 rw[← List.range_eq_range',show opsL.toList.length=opsL.size by simp,hlist,show opsL.toList.toArray=opsL by simp,hiff]at hrun
 obtain⟨_,s3,G',hR,hs3,he3,hb3⟩:=hrun
 generalize hw2:w1.setCell ⟨c,off,none⟩ (a1.tmps.getD y undef)=w2 at *
 have hch:Ch w1 w2 ⟨c,off,none⟩ (a1.tmps.getD y undef):=hw2▸ch_setCell hcell
 have hBw:B≤w1.heap.size:=he.size
 have hcB:c < B:=hs.hr.lt _ _ hc
 have hltB:∀c,G'.amb c→c < B:=fun c' h'=>by
  have h1:c' < w2.heap.size:=hs3.hr.amb_lt c' h'
  rw[hch.size]at h1
  rcases he3.ambn c' h' h1 with h2|⟨b,h2⟩
  ·exact hs.hr.amb_lt c' h2
  ·exact hs.hr.lt b c' h2
 have hltB2:∀b c,G'.ι b=some c→c < B:=fun b c' h'=>by
  have h1:c' < w2.heap.size:=hs3.hr.lt b c' h'
  rw[hch.size]at h1
  obtain⟨b',h2⟩:=he3.idn b c' h' h1
  exact hs.hr.lt b' c' h2
 have hlow:Low base G w G' s3.h s3.nx B w2:=⟨hs3.hr,t1.evo.trans he3,hb3,hltB,hltB2,Nat.le_refl _⟩
 -- what is answered,behind the mark
 let G3:Gh:=⟨fun _=>none,fun c=>(B≤c∧G2b.amb c)∨∃p∈glob,p.1=c,B⟩
 have hzv:vr G3 w2 vz (a2.tmps.getD z undef):=by
  rw[ho2 z hz.1 hz.2.1 hz.2.2.1 hz.2.2.2]
  have hzz:=hs1b.tmp z
  rw[show St.get ⟨[(z,vz)],[],nx2⟩ z=vz by simp[St.get,look,Nat.beq_refl]]at hzz
  refine VR.mono (ι:=G3.ι) (fun _ _ h=>h) hch.csz (fun _ _ _ h=>h) (hvz.1 _ _ _ _ _ (hvz.2 _ _ _ (imm G3 w2) _ (fun ad u hi=>?_) hzz))
  have h1:=(hi.2.2.1 rfl).1
  rw[hBa]at h1
  have hne:ad.block ≠ c:=by omega
  have hsame:w2.heap[ad.block]? = w1.heap[ad.block]?:=hch.other _ hne
  exact⟨(rd_of_block hsame).trans hi.1,.inl ⟨h1,hi.2.1⟩,fun _=>⟨h1,by rw[frozen_of_block hsame];exact(hi.2.2.1 rfl).2⟩,hi.2.2.2⟩
 have hs3':Sim G3 N ⟨[(z,vz)],[],0⟩ a2 w2:=by
  refine⟨hsz2,fun i=>?_,⟨fun c' h'=>?_,by rw[hch.size];exact hBw,fun _ _=>rfl,fun b blk h=>by simp[hget]at h,fun b b' k k' c h=>by simp[hget]at h,fun b k c h=>by simp[hget]at h,(fun b c h=>by cases h),fun b k h=>by simp[hget]at h,fun p hp=>⟨.inr ⟨p,hp,rfl⟩,?_⟩⟩⟩
  ·show vr G3 w2 (look [(z,vz)] i) _
   rw[look_cons]
   by_cases h1:z=i
   ·subst h1;rw[if_pos rfl];exact hzv
   ·rw[if_neg h1];exact .any _
  ·rcases h' with⟨_,h'⟩|⟨p,hp,rfl⟩
   ·rw[hch.size];exact hs1b.hr.amb_lt c' h'
   ·have:=hs.hr.amb_lt _ (hgl p hp);rw[hch.size];omega
  ·obtain⟨o,h1,h2⟩:=(t1.hr.gl p hp).2
   refine⟨o,?_,h2⟩
   have hne:p.1 ≠ c:=fun e=>hs.hr.apart b0 _ c hb0 hc (e▸hgl p hp)
   rw[hch.other _ hne]
   exact h1
 have hpost:∀(s4:St) (a3:Act) (w3:World) (G4:Gh),K .ret s3.h s3.nx s4→Sim G4 N s4 a3 w3→Evo 0 G3 w2 G4 w3→a3.defers=a2.defers→PostLo N base G w a.defers K .ret a3 w3:=by
  intro s4 a3 w3 G4 q1 q2 q3 q5
  have hbel:Below B w2 w3:=⟨q3.os,q3.tape,q3.output,q3.size,fun k hk=>q3.keepu k (by rw[hch.size];omega) (fun b h=>by cases h)⟩
  obtain⟨hl',ag3⟩:=hlow.below hbel
  have hB4:G4.B=B:=q3.B
  have hidn:∀b c,G4.ι b=some c→G4.B≤c:=fun b c' h'=>by
   rw[hB4]
   rcases Nat.lt_or_ge c' w2.heap.size with h1|h1
   ·obtain⟨b',h2⟩:=q3.idn b c' h' h1
    cases h2
   ·rw[hch.size]at h1;omega
  refine⟨.ret,s3.h,s3.nx,G',s4,G4,rfl,q1,by rw[hB4];exact hl',q2,⟨[],by rw[q5,hd2,hd];rfl,by simp,.nil⟩,hidn,fun c' h'=>?_⟩
  rw[hB4]
  rcases Nat.lt_or_ge c' w2.heap.size with h1|h1
  ·rcases q3.ambn c' h' h1 with(⟨h2,_⟩|⟨p,hp,rfl⟩)|⟨b,h2⟩
   ·exact .inl h2
   ·exact .inr ((hs3.hr.gl p hp).1)
   ·cases h2
  ·left;rw[hch.size]at h1;omega
 refine wpIn_seq (wpIn_mono (Q:=fun e a3 w3=>e=.normal∧PostLo N base G w a.defers K .ret a3 w3) (wpIn_region ?_) ?_)
 ·have hfin:=runOps_ok (n:=n) hT hF (rest:=opsR.toList) (all:=opsR.toList) (k:=0) (base:=0) (Q:=fun e a3 w3=>e=.normal∧PostLo N base G w a.defers K .ret a3 w3) (fun i=>by simp) hR hs3' (Nat.zero_le _)
   (fun s4 a3 w3 G4 q1 q2 q3 _ q5=>⟨rfl,hpost s4 a3 w3 G4 q1 q2 q3 q5⟩)
  rw[List.range_eq_range']
  simpa using hfin
 ·rintro e a3 w3 ⟨rfl,hp⟩
  exact wpIn_ret hp
theorem callB_of_lo (hT:TabOk P T) {f:FuncId} {fn:Func} {body:Code} (hf:P.funcs[f]? = some fn) (hb:fn.body=some body) (hn:fn.name ≠ "runtime.NumGoroutine") {args:List V} {h:Heap} {nx:Nat} {R:V→Heap→Nat→Prop}
  (hl:args.length≤fn.ntmps)
  (hv:VLo P Fence.wide fn.ntmps nx body ⟨zipT args 0,h,nx⟩ (fun e h1 nx1 s2=>match e with
   | .normal|.ret=>resK T s2 fn.results.toList fun v=>∃v' h' nx',Ends 0 s2 v v' h' nx'∧Free v'∧Fresh v'∧R v' h1 nx1
   | _=>False)):CallB P f args h nx R:=by
 refine⟨⟨fn,hf⟩,fun G w us hr hargs=>.inl ⟨⟨fn,hf,by simp[hb],hn⟩,(callsIn_wide (n:=0)).1 (callsIn_of_wp_marks hf hb trivial ?_)⟩⟩
 have hsim:Sim G fn.ntmps ⟨zipT args 0,h,nx⟩ { tmps:=us.toArray ++ Array.replicate (fn.ntmps - us.toArray.size) undef,defers:=[] } w:=by
  have hul:us.length=args.length:=hargs.1.symm
  refine⟨by simp;omega,fun i=>?_,hr⟩
  simp only[St.get]
  rw[zipT_get]
  split
  ·rename_i hi
   have hi1:i < args.length:=by omega
   have hi2:i < us.length:=by omega
   have e1:args.getD (i - 0) .any=args[i]:=by simp[hi1]
   rw[e1]
   have e2:(us.toArray ++ Array.replicate (fn.ntmps - us.toArray.size) undef).getD i undef=us[i]:=by
    rw[Array.getD_eq_getD_getElem?,Array.getElem?_append_left (by simpa using hi2)]
    simp[hi2]
   rw[e2]
   exact hargs.2 i _ _ (List.getElem?_eq_getElem hi1) (List.getElem?_eq_getElem hi2)
  ·exact .any _
 refine wpIn_mono (hv 0 G _ w hsim (Nat.le_refl _)) ?_
 rintro e a' w' ⟨e',h1,nx1,G1,s',G',rfl,hq,ht,hs',hd,_,_⟩
 obtain⟨ms,hms,hmk,hpw⟩:=hd
 rw[List.append_nil]at hms
 have fin:resK T s' fn.results.toList (fun v=>∃v' h' nx',Ends 0 s' v v' h' nx'∧Free v'∧Fresh v'∧R v' h1 nx1)→∀w'',Shut ms w' w''→∃v,(results fn a'.tmps).run P w''=.ok v w'' ∧
   ∃u v1 h' nx' G' B',Ending.returned v=.returned u∧R v1 h' nx'∧HR G' h' nx' w''∧Evo nx G w G' w''∧nx≤nx'∧(∀c,G'.amb c→c < B')∧(∀b c,G'.ι b=some c→c < B')∧w.heap.size≤B'∧B'≤w''.heap.size∧vr (Gh.from w'' B') w'' v1 u:=by
  intro hq w'' hsh
  have hs':=hs'.shut hsh (fun r hr=>(hmk r hr).2.2.2)
  have hmw:∀c,c < w.heap.size→c ∉ ms:=fun c hc hm=>by have:=(hmk c hm).1;omega
  have ag:Agr G1 G1 h1 w' w'':=⟨by rw[hsh.size];exact Nat.le_refl _,rfl,rfl,fun _ h=>h,fun c hc=>hsh.heap c (fun hm=>(hmk c hm).2.2.1.2 hc),fun b blk c q1 q2=>hsh.heap c (fun hm=>(hmk c hm).2.2.1.1 b q2),fun b c m _ hm=>hsh.dead c m hm⟩
  have he:=ht.evo
  have he:Evo nx G w G1 w'':=⟨hsh.os.trans he.os,hsh.tape.trans he.tape,hsh.output.trans he.output,by rw[hsh.size];exact he.size,he.B,he.amb,fun c hc=>(hsh.heap c (hmw c (hr.amb_lt c hc))).trans (he.keep c hc),
   fun c m hm=>hsh.dead c m (he.csz c m hm),he.ids,fun c hc hn=>(hsh.heap c (hmw c hc)).trans (he.keepu c hc hn),he.ambn,he.idn⟩
  clear hmk
  obtain⟨vs,hK,hvs⟩:=resL_out (N:=fn.ntmps) hT hq
  obtain⟨us,hus,hvrs⟩:=hvs G' a' w'' hs'
  have hres:(results fn a'.tmps).run P w''=.ok (if h:us.toArray.size=1 then us.toArray[0]else .tuple us.toArray) w'':=by
   unfold results
   rw[Array.mapM_eq_mapM_toList]
   simp only[Sem.run_bind,Sem.run_map]
   have e:(fn.results.toList.mapM fun(x:ResultVar)=>(match x with|.tmp t=>(pure (a'.tmps.getD t undef):Sem Value)|.cell a t=>do loadVar t (← asAddr (a'.tmps.getD a undef)))).run P w''=.ok us w'':=hus
   erw [e]
   rfl
  have key:∃v,vr G' w'' v (if h:us.toArray.size=1 then us.toArray[0]else .tuple us.toArray)∧∃v' h' nx',Ends 0 s' v v' h' nx'∧Free v'∧Fresh v'∧R v' h1 nx1:=by
   have hl:=hvrs.1
   split at hK
   ·rename_i v
    have h1:us.toArray.size=1:=by simpa using hl.symm
    rw[dif_pos h1]
    have h1':0 < us.length:=by simp at h1;omega
    exact⟨v,by simpa using hvrs.2 0 v us[0] rfl (List.getElem?_eq_getElem h1'),hK⟩
   ·rename_i hne
    have h1:¬ us.toArray.size=1:=by
     intro h1
     have h1':vs.length=1:=by rw[hl];simpa using h1
     obtain⟨v,rfl⟩:=List.length_eq_one_iff.1 h1'
     exact hne v rfl
    rw[dif_neg h1]
    exact⟨.tup vs,.tup vs us hvrs.1 hvrs.2,hK⟩
  obtain⟨v,hvr,v',h',nx',hfin,hfree,hfresh,hR⟩:=key
  obtain⟨G3,q1,q2,q3,q4⟩:=hfin G' w'' _ hs'.hr (Nat.zero_le _) hvr
  have hB3:G3.B=G'.B:=q3.B
  refine⟨_,hres,_,v',h1,nx1,G1,G'.B,rfl,hR,ag.hr ht.hr,he,ht.nx,ht.amb,ht.lt,ht.B,hs'.hr.B_le,?_⟩
  exact hfree _ _ _ _ _ (hfresh _ _ _ (imm (Gh.from w'' G'.B) w'') _ (fun a u hi=>⟨hi.1,⟨by have:=(hi.2.2.1 rfl).1;rw[hB3]at this;exact this,q1.amb_lt _ hi.2.1⟩,fun _=>⟨by have:=(hi.2.2.1 rfl).1;rw[hB3]at this;exact this,(hi.2.2.1 rfl).2⟩,hi.2.2.2⟩) q2)
 cases e' with
 | normal=>show LeavesInM _ _ _ _ _ _ a'.defers _ _;rw[hms];exact leaves_marks (fun r hr=>(hmk r hr).2.1) hpw (fin hq)
 | ret=>show LeavesInM _ _ _ _ _ _ a'.defers _ _;rw[hms];exact leaves_marks (fun r hr=>(hmk r hr).2.1) hpw (fin hq)
 | exit id=>exact hq.elim
 | goto id=>exact hq.elim
theorem vc_join (hT:TabOk P T) (hm:P.follows .mixedOrders=true) (hF:FW F) {rd:Bool} (hrd:rd=false→F.round=none) {base:Nat} {x y:Code} {s:St} {Q:Ex→St→Prop} {S:Type} (st:S→St) (h:vcg P T N base rd x s (thenK (fun s'=>∃i,Wk base N s' (st i)) Q)) (h2:∀i,VC P F N base y (st i) Q):VC P F N base (.seq x y) s Q:=
 vc_seq ((vcg_ok hT hm hF hrd h).mono fun e s' hq=>by
  cases e with
  | normal=>
   obtain⟨i,hw⟩:=hq
   exact vc_weak hw (h2 i)
  | exit id=>exact hq
  | goto id=>exact hq
  | ret=>exact hq)
end
end
section
open Go.Proofs.Tryz (prog)
attribute [local irreducible] CallV RoundV aggK
structure SelfL where
 sys:UInt32
 id:UInt32
 addr:UInt32
deriving DecidableEq
def cellsSf (s:SelfL):List V:=[cW s.sys,cW s.id,cW s.addr]
def encSf (s:SelfL):V:=.agg (cellsSf s)
theorem encSf_free (s:SelfL):Free (encSf s):=.agg (by intro v hv;simp[cellsSf]at hv;rcases hv with rfl|rfl|rfl<;>exact .int)
instance {s}:FreeI (encSf s):=⟨⟨encSf_free s⟩⟩
def cellsOut (s:SelfL) (pe:Peer) (pol:Policy) (m:List (Prefix × Attrs)):List V:=
 [cW s.sys,cW s.id,cW s.addr,cW pe.sys,cW pe.id,cW pe.addr,.bool pe.inner,encRus false pol.rules,.bool pol.els,.imap false (esA m)]
theorem cellsOut_free (s:SelfL) (pe:Peer) (pol:Policy) (m:List (Prefix × Attrs)):∀v∈cellsOut s pe pol m,Free v:=by
 intro v hv
 simp only[cellsOut,List.mem_cons,List.not_mem_nil,or_false]at hv
 rcases hv with rfl|rfl|rfl|rfl|rfl|rfl|rfl|rfl|rfl|rfl<;>first|exact .int|exact .bool|exact .sl (rowsRu_free _)|exact imapA_free _
instance {s pe pol m}:FreeLI (cellsOut s pe pol m):=⟨⟨cellsOut_free s pe pol m⟩⟩
theorem cloneO_pure (fr fr':Bool) (es:List (V × V)):PCon prog 48 [.imap fr es] (.imap fr' es):=by
 refine pcon_calls (fn:=Go.Proofs.Tryz.f48) Go.Proofs.Tryz.func48 rfl (by decide) fun G w us hr hv=>?_
 obtain⟨u,rfl,hu⟩:=vrs_one hv
 obtain⟨c,arr,clk,rfl,hh,hok,hl,hkv⟩:=imap_out hu
 refine(AnyW.maps_Clone Go.Proofs.Tryz.cloneMapO c arr clk w hh).mono ?_
 rintro e w' ⟨rfl,rfl⟩
 have he:=clone_evo (.map arr clk) hr
 have hd:∀b,0≤b→G.ι b=none:=fun b h=>hr.dom b h
 have hlt:=(Array.getElem?_eq_some_iff.1 (alloc_at w (.map arr clk))).1
 have hB:Below w.heap.size w (w.alloc (.map arr clk)):=(Below.refl _ w).alloc (Nat.le_refl _) _
 have up:∀{v:V} {x:Value},vr G w v x→vr (G.more w (w.alloc (.map arr clk))) (w.alloc (.map arr clk)) v x:=fun h=>
  VR.mono (fun b c h=>by rw[hr.dom b (Nat.zero_le _)]at h;cases h) he.csz (fun fr a u hi=>⟨(he.imm hi).1,.inl hi.2.1,(he.imm hi).2.2⟩) h
 refine⟨_,rfl,hB,.imap fr' es w.heap.size arr clk ⟨rd_map.2 (alloc_at _ _),.inr ⟨Nat.le_refl _,hlt⟩,fun _=>⟨hr.B_le,?_⟩,fun h=>by cases h⟩ hok hl (fun j kv e h1 h2=>up (hkv j kv e h1 h2).1) (fun j kv e h1 h2=>up (hkv j kv e h1 h2).2)⟩
 simp only[World.frozen?,mAddr]
 rw[alloc_at]
abbrev varOut (s:SelfL) (pe:Peer) (pol:Policy) (m:List (Prefix × Attrs)):Option Blk:=some (.var true 97 (cellsOut s pe pol m))
def OutC (f:FuncId) (args:List V) (C C':List V) (R:V→Prop):Prop:=
 CallV prog f args [(0,some (.var true 97 C))] 1 (fun v h nx=>R v∧h=[(0,some (.var true 97 C'))]∧nx=1)
theorem callV_out {f:FuncId} {args args0:List V} {C C':List V} {R:V→Prop} {h:Heap} {nx b:Nat} {K:V→Heap→Nat→Prop} (hc:OutC f args0 C C' R) (hb:hget h b=some (.var true 97 C))
  (hC:∀v∈C,Free v) (hC':∀v∈C',Free v) (ha:LeL h nx (fun _=>b) 1 [] args args0) (hR:∀v,R v→Free v∧K v ((b,some (.var true 97 C')) :: h) nx):CallV prog f args h nx K:=by
 refine callV_ptr (R:=fun v c=>R v∧c=C') (hc.mono ?_) hb hC ha ?_
 ·rintro v h' nx' ⟨h1,rfl,rfl⟩
  exact⟨C',⟨h1,rfl⟩,rfl,rfl⟩
 ·rintro v c ⟨h1,rfl⟩
  exact⟨(hR v h1).1,hC',(hR v h1).2⟩
theorem ocopied_ok (fr:Bool) (p:Policy) (hl:p.rules.length≤1000):PCon prog 34 [encPo fr p] (encPo false p):=by
 have hc:=cloneRu_ok fr p.rules hl
 refine callV_of (fn:=Go.Proofs.Tryz.f34) (body:=_) tab_ok mixed rfl rfl (by decide) (by simp[Go.Proofs.Tryz.f34]) ?_
 conv=>whnf
 refine⟨_,[],fun h nx _=>pureV_pure hc ⟨.fr rfl,trivial⟩,by simp,?_⟩
 conv=>whnf
 refine⟨by kernel_rfl,?_⟩
 conv=>whnf
 exact(Ends.pure [] (by repeat' (first|exact True.intro|exact .aggL ⟨.fresh_off (.fr rfl),.fr rfl,trivial⟩|exact .A|exact LeL.fr rfl|refine .tupL ?_|refine .aggL ?_|refine⟨?_,?_⟩)) (by simp))
theorem onone_nil:PCon prog 37 [.nilp] (.bool true):=by
 refine callV_of (fn:=Go.Proofs.Tryz.f37) (body:=_) tab_ok mixed rfl rfl (by decide) (by simp[Go.Proofs.Tryz.f37]) ?_
 conv=>whnf
 exact(Ends.pA)
theorem onone_ok (s:SelfL) (pe:Peer) (pol:Policy) (m:List (Prefix × Attrs)):OutC 37 [.ptr 0 0] (cellsOut s pe pol m) (cellsOut s pe pol m) (·=.bool false):=by
 unfold OutC
 refine callV_of (fn:=Go.Proofs.Tryz.f37) (body:=_) tab_ok mixed rfl rfl (by decide) (by simp[Go.Proofs.Tryz.f37]) ?_
 conv=>whnf
 exact⟨_,_,_,(Ends.all id [] (by repeat' (first|exact LHa|exact LeL.freeV (cellsOut_free s pe pol m)|exact .A|exact LeL.fr rfl|exact LHb|refine Or.inl ⟨by simp,_,rfl,?_⟩|exact Or.inr ⟨by simp,_,_,_,_,rfl⟩|refine⟨rfl,rfl,rfl,rfl,rfl,rfl,?_⟩|refine⟨?_,?_⟩)) (fun _ _ _ _ h=>h) (fun _ _=>rfl) (by omega) (by simp)),rfl,rfl,rfl⟩
theorem nought_ok (fr:Bool) (l:List UInt32):PCon prog 32 [encW fr l] (.bool (!l.all (· != 0))):=by
 have hc:=contains_ok fr l 0
 refine callV_of (fn:=Go.Proofs.Tryz.f32) (body:=_) tab_ok mixed rfl rfl (by decide) (by simp[Go.Proofs.Tryz.f32]) ?_
 conv=>whnf
 refine callV_pure hc ⟨.fr rfl,.fr rfl,trivial⟩ ?_
 conv=>whnf
 exact(Ends.pA)
theorem oright_ok (fr:Bool) (r:Route):PCon prog 45 [encRt fr r] (.bool (prefOk r.pfx && rightA r.attrs)):=by
 have h1:=uRight_ok r.pfx
 have h2:=check_ok fr r.attrs
 refine callV_of (fn:=Go.Proofs.Tryz.f45) (body:=_) tab_ok mixed rfl rfl (by decide) (by simp[Go.Proofs.Tryz.f45]) ?_
 conv=>whnf
 refine callV_pure h1 ⟨.fr rfl,trivial⟩ ?_
 cases hp:prefOk r.pfx with
 | false=>
  conv=>whnf
  exact(Ends.pA)
 | true=>
  conv=>whnf
  refine callV_pure h2 ⟨.fr rfl,trivial⟩ ?_
  cases hr:rightA r.attrs with
  | false=>
   rw[checkA,hr]
   conv=>whnf
   exact(Ends.pA)
  | true=>
   rw[checkA,hr]
   conv=>whnf
   exact(Ends.pA)
def newO (s:SelfL) (pe:Peer) (pol:Policy):Bool:=decide (s.id ≠ 0)&& decide (s.addr ≠ 0)&& peerB s.sys pe && decide (checkP pol=0)
theorem newO_out {s:SelfL} {pe:Peer} {pol:Policy} (h:newO s pe pol=true):[s.sys,s.id,s.addr,pe.sys,pe.id,pe.addr].all (· != 0)=true∧pe.inner=decide (pe.sys=s.sys)∧checkP pol=0:=by
 simp only[newO,peerB,Bool.and_eq_true,decide_eq_true_eq]at h
 obtain⟨⟨⟨h1,h2⟩,⟨⟨⟨h3,h4⟩,h5⟩,h6⟩,h7⟩,h8⟩:=h
 refine⟨by simp[*],by simpa using h7,h8⟩
theorem newO_ok (s:SelfL) (pe:Peer) (pol:Policy) (h:newO s pe pol=true):CallV prog 11 [encSf s,encPe pe,encPo false pol] [] 0 (fun v h nx=>v=.tup [.ptr 0 0,.int .i64 0]∧h=[(0,varOut s pe pol [])]∧nx=1):=by
 obtain⟨h1,h2,h3⟩:=newO_out h
 have rc:=check23_ok false pol
 rw[h3]at rc
 have cp:=ocopied_ok false pol (by have:=pol_small h3;omega)
 have hn:=nought_ok false [s.sys,s.id,s.addr,pe.sys,pe.id,pe.addr]
 rw[h1]at hn
 have e5:(pe.inner != ((pe.sys.toNat:Int) == s.sys.toNat))=false:=by rw[beqW,h2];simp
 refine callV_of (fn:=Go.Proofs.Tryz.f11) (body:=_) tab_ok mixed rfl rfl (by decide) (by simp[Go.Proofs.Tryz.f11]) ?_
 conv=>whnf
 refine callV_lend [3] hn ⟨.fresh_off (LeV.freezeR (by simp) rfl (by simp) (.free (rowsW_free [s.sys,s.id,s.addr,pe.sys,pe.id,pe.addr]))),trivial⟩ (by intro v hv;simp at hv;subst hv;exact encW_cold _) (one_none rfl) .bool ?_
 conv=>whnf
 rw[e5]
 conv=>whnf
 refine callV_pure rc ⟨.fr rfl,trivial⟩ ?_
 conv=>whnf
 refine⟨_,[],fun h nx _=>pureV_pure cp ⟨.fr rfl,trivial⟩,by simp,?_⟩
 conv=>whnf
 refine⟨by kernel_rfl,?_⟩
 conv=>whnf
 exact⟨.tup [.ptr 0 0,.int .i64 0],[(0,varOut s pe pol [])],1,(Ends.all (renOf [(0,5)]) [4] (by repeat' (first|exact LHa|exact Or.inl ⟨by decide,_,rfl,id,rfl,.fr rfl,.fr rfl,.fr rfl,.fr rfl,.fr rfl,.fr rfl,.fr rfl,.fr rfl,.fr rfl,LeV.freezeM (by simp) rfl rfl (by simp),trivial⟩|exact .tupL ⟨.ptr rfl (by omega),.fr rfl,trivial⟩|exact .A|exact LeL.fr rfl|exact LHb|refine Or.inl ⟨by simp,_,rfl,?_⟩|exact Or.inr ⟨by simp,_,_,_,_,rfl⟩|refine⟨rfl,rfl,rfl,rfl,rfl,rfl,?_⟩|refine⟨?_,?_⟩)) (show ∀b∈([0]:List Nat),∀b'∈([0]:List Nat),(renOf [(0,5)]) b=(renOf [(0,5)]) b'→b=b' by decide) (fun _ h=>by omega) (by omega) (by intro z hz;simp only[List.mem_cons,List.not_mem_nil,or_false]at hz;rcases hz with rfl<;>exact ne_none_of rfl)),rfl,rfl,rfl⟩
theorem newO_bad (s:SelfL) (pe:Peer) (pol:Policy) (h:newO s pe pol=false):PCon prog 11 [encSf s,encPe pe,encPo false pol] (.tup [.nilp,.int .i64 2]):=by
 have rc:=check23_ok false pol
 have hn:=nought_ok false [s.sys,s.id,s.addr,pe.sys,pe.id,pe.addr]
 refine callV_of (fn:=Go.Proofs.Tryz.f11) (body:=_) tab_ok mixed rfl rfl (by decide) (by simp[Go.Proofs.Tryz.f11]) ?_
 conv=>whnf
 refine callV_lend [3] hn ⟨.fresh_off (LeV.freezeR (by simp) rfl (by simp) (.free (rowsW_free [s.sys,s.id,s.addr,pe.sys,pe.id,pe.addr]))),trivial⟩ (by intro v hv;simp at hv;subst hv;exact encW_cold _) (one_none rfl) .bool ?_
 cases h1:[s.sys,s.id,s.addr,pe.sys,pe.id,pe.addr].all (· != 0)with
 | false=>
  conv=>whnf
  exact(Ends.pA)
 | true=>
 conv=>whnf
 cases e5:(pe.inner != ((pe.sys.toNat:Int) == s.sys.toNat))with
 | true=>
  conv=>whnf
  exact(Ends.pA)
 | false=>
 conv=>whnf
 refine callV_pure rc ⟨.fr rfl,trivial⟩ ?_
 have hc:checkP pol ≠ 0:=by
  intro hc
  have:newO s pe pol=true:=by
   have e6:pe.inner=decide (pe.sys=s.sys):=by
    rw[beqW]at e5
    simpa using e5
   simp only[List.all_cons,List.all_nil,Bool.and_eq_true,bne_iff_ne,ne_eq]at h1
   obtain⟨q1,q2,q3,q4,q5,q6,_⟩:=h1
   simp[*,newO,peerB,hc]
  rw[this]at h;cases h
 conv=>whnf
 rw[show(checkP pol != 0)=true by simp[hc]]
 conv=>whnf
 exact(Ends.pA)
end
section
open Go.Proofs.Tryz (prog)
attribute [local irreducible] CallV RoundV aggK
theorem encU_cld (u:Upd):Cold (encU false u):=.agg (by
 intro v hv
 rcases List.mem_cons.1 hv with rfl|hv
 ·exact encPs_cold _
 rcases List.mem_cons.1 hv with rfl|hv
 ·exact encPs_cold _
 simp only[cellsA,List.mem_cons,List.not_mem_nil,or_false]at hv
 rcases hv with rfl|rfl|rfl|rfl|rfl|rfl|rfl|rfl<;>first|exact .int|exact .bool|exact encLegs_cold _|exact encW_cold _)
def noPe:Peer:=⟨0,0,0,false⟩
def ownR (r:Route):Bool:=decide (r.peer=noPe)
def sayM (own inner:Bool) (a:Attrs):Attrs:=
 if inner then(if a.hasPref then a else { a with hasPref:=true,pref:=100 })
 else { a with hasPref:=false,pref:=0,hasMed:=a.hasMed && own,med:=if a.hasMed && own then a.med else 0 }
def stepS (s:SelfL) (pe:Peer) (pol:Policy) (r:Route) (a:Attrs):Nat→Option Attrs
 | 0=>if prefOk r.pfx && rightA r.attrs then some a else none
 | 1=>if !decide (r.peer.sys=pe.sys) || !decide (r.peer.id=pe.id) || !decide (r.peer.addr=pe.addr)then some a else none
 | 2=>if ownR r || !pe.inner || !r.peer.inner then some a else none
 | 3=>some (sayM (ownR r) pe.inner a)
 | 4=>if(byR pol s.sys r.pfx a).2 then some (byR pol s.sys r.pfx a).1 else none
 | 5=>if pe.inner then some a else if prepE a s.sys 1=0 then some { prepA a s.sys 1 with next:=s.addr } else none
 | _=>if checkU ⟨[],[r.pfx],a⟩=0 then some a else none
def sayK (s:SelfL) (pe:Peer) (pol:Policy) (r:Route):Nat→Option Attrs
 | 0=>some r.attrs
 | k + 1=>(sayK s pe pol r k).bind fun a=>stepS s pe pol r a k
def sayO (s:SelfL) (pe:Peer) (pol:Policy) (r:Route):Option Attrs:=sayK s pe pol r 7
theorem sayK_none {s:SelfL} {pe:Peer} {pol:Policy} {r:Route}:∀{n k:Nat},sayK s pe pol r k=none→sayK s pe pol r (k + n)=none
 | 0,_,h=>h
 | n + 1,k,h=>by
  show(sayK s pe pol r (k + n)).bind _=none
  rw[sayK_none (n:=n) h]
  rfl
theorem right_sf {a:Attrs} (h:rightA a=true):smallA a∧fewA a=true:=by
 simp only[rightA,pathOk,legOk,Bool.and_eq_true,decide_eq_true_eq,List.all_eq_true]at h
 obtain⟨⟨⟨⟨⟨⟨_,h1,h2⟩,_⟩,_⟩,_⟩,h3⟩,_⟩:=h
 have hp:∀p∈a.path,p.ns.length≤32:=fun p hp=>(h2 p hp).1.1.2
 refine⟨⟨by omega,fun p h=>by have:=hp p h;omega,by omega⟩,?_⟩
 simp only[fewA,Bool.and_eq_true,decide_eq_true_eq,List.all_eq_true]
 exact⟨⟨fun p h=>by have:=hp p h;omega,by omega⟩,by omega⟩
theorem sayK_few {s:SelfL} {pe:Peer} {pol:Policy} {r:Route} {a:Attrs} (h:sayK s pe pol r 6=some a):fewA a=true:=by
 have e6:sayK s pe pol r 6=(sayK s pe pol r 5).bind fun a=>if pe.inner then some a else if prepE a s.sys 1=0 then some { prepA a s.sys 1 with next:=s.addr } else none:=rfl
 have e5:sayK s pe pol r 5=(sayK s pe pol r 4).bind fun a=>if(byR pol s.sys r.pfx a).2 then some (byR pol s.sys r.pfx a).1 else none:=rfl
 rw[e6]at h
 cases h5:sayK s pe pol r 5 with
 | none=>rw[h5]at h;cases h
 | some b=>
  have hb:rightA b=true:=by
   rw[e5]at h5
   cases h4:sayK s pe pol r 4 with
   | none=>rw[h4]at h5;cases h5
   | some c=>
    rw[h4]at h5
    simp only[Option.bind_some]at h5
    split at h5
    ·rename_i hc
     cases h5
     unfold byR at hc ⊢
     split
     ·rename_i he
      rw[if_pos he]at hc;cases hc
     ·rename_i he
      rw[if_neg he]at hc
      exact by_right24 (by simpa using he) hc
    ·cases h5
  rw[h5]at h
  simp only[Option.bind_some]at h
  split at h
  ·cases h;exact(right_sf hb).2
  ·split at h
   ·rename_i hp
    cases h
    exact(right_sf (prep_fine hp).2.2.2.1).2
   ·cases h
def rowsF:List (List V):=[[.fn (.func 72) [] [.ptr 5 0]],[.fn (.func 73) [] [.ptr 5 0,.ptr 4 0]],[.fn (.func 74) [] [.ptr 7 0,.ptr 4 0,.ptr 5 0]],[.fn (.func 75) [] [.ptr 4 0,.ptr 6 0,.ptr 7 0]],[.fn (.func 76) [] [.ptr 4 0,.ptr 5 0,.ptr 6 0]],[.fn (.func 78) [] [.ptr 4 0,.ptr 6 0]],[.fn (.func 80) [] [.ptr 5 0,.ptr 6 0]]]
theorem rowsF_le {h:Heap} {nx nx':Nat} {Z:List Nat} (hn:7 < nx'):LeR h nx id nx' Z rowsF rowsF:=
 ⟨⟨.fnL trivial ⟨.ptr rfl (by omega),trivial⟩,trivial⟩,⟨.fnL trivial ⟨.ptr rfl (by omega),.ptr rfl (by omega),trivial⟩,trivial⟩,⟨.fnL trivial ⟨.ptr rfl (by omega),.ptr rfl (by omega),.ptr rfl (by omega),trivial⟩,trivial⟩,⟨.fnL trivial ⟨.ptr rfl (by omega),.ptr rfl (by omega),.ptr rfl (by omega),trivial⟩,trivial⟩,⟨.fnL trivial ⟨.ptr rfl (by omega),.ptr rfl (by omega),.ptr rfl (by omega),trivial⟩,trivial⟩,⟨.fnL trivial ⟨.ptr rfl (by omega),.ptr rfl (by omega),trivial⟩,trivial⟩,⟨.fnL trivial ⟨.ptr rfl (by omega),.ptr rfl (by omega),trivial⟩,trivial⟩,trivial⟩
theorem bneW (x y:UInt32):((x.toNat:Int) != (y.toNat:Int))=!decide (x=y):=by rw[bne,beqW]
theorem says_ok (s:SelfL) (pe:Peer) (pol:Policy) (m:List (Prefix × Attrs)) (r:Route) (hs:smallA r.attrs) :
  OutC 14 [.ptr 0 0,encRt false r] (cellsOut s pe pol m) (cellsOut s pe pol m) (·=optV true (sayO s pe pol r)):=by
 have hcp:=copy_pure false r.attrs hs.1 hs.2.1 hs.2.2
 unfold OutC
 refine callV_of (fn:=Go.Proofs.Tryz.f14) (body:=_) tab_ok mixed rfl rfl (by decide) (by simp[Go.Proofs.Tryz.f14]) ?_
 conv=>whnf
 refine callV_out (onone_ok s pe pol m) rfl (cellsOut_free _ _ _ _) (cellsOut_free _ _ _ _) ⟨.ptr rfl (by omega),trivial⟩ ?_
 rintro v rfl
 refine⟨.bool,?_⟩
 show _
 conv=>whnf
 refine callV_pure hcp ⟨.fr rfl,trivial⟩ ?_
 conv=>whnf
 refine callV_of (fn:=Go.Proofs.Tryz.f39) (body:=_) tab_ok mixed rfl rfl (by decide) (by simp[Go.Proofs.Tryz.f39]) ?_
 conv=>whnf
 refine eqlPe r.peer noPe ?_
 conv=>whnf
 refine⟨_,_,_,Ends.here,?_⟩
 conv=>whnf
 intro _
 conv=>whnf
 refine vcg_loop tab_ok mixed (fun q:{q:Nat × Attrs // q.1≤7∧sayK s pe pol r q.1=some q.2}=>⟨[(3,.ptr 1 0),(4,.ptr 2 0),(6,.ptr 3 0),(17,.osl 8 1 0 7),(18,.int .i64 7),(19,cI q.1.1)],[(0,varOut s pe pol m),(1,some (.var true 37 (cellsRt false r))),(2,some (.var true 35 zeroC)),(3,some (.var true 35 (cellsA true q.1.2))),(4,some (.var true 41 [.ptr 0 0])),(5,some (.var true 37 (cellsRt false r))),(6,some (.var true 103 [.ptr 3 0])),(7,some (.var true 4 [.bool (ownR r)])),(8,some (.arr true true 40 1 rowsF))],9⟩) (fun q=>7 - q.1.1) ⟨(0,r.attrs),by omega,rfl⟩ (Wk.i (by repeat' (first|exact LHa|exact⟨id,id,rfl,rfl,LeR.out (rowsF_le (by omega))⟩|exact LeL.freeV (cellsOut_free s pe pol m)|exact LeL.freeV (cellsRt_free false r)|exact .A|exact LeL.fr rfl|exact LHb|refine Or.inl ⟨by simp,_,rfl,?_⟩|exact Or.inr ⟨by simp,_,_,_,_,rfl⟩|refine⟨rfl,rfl,rfl,rfl,rfl,rfl,?_⟩|refine⟨?_,?_⟩)) (by omega)) (fun q=>?_)
 obtain⟨⟨k,a⟩,hk,hq⟩:=q
 have hk:k≤7:=hk
 have hq:sayK s pe pol r k=some a:=hq
 have hk':k=0∨k=1∨k=2∨k=3∨k=4∨k=5∨k=6∨k=7:=by omega
 rcases hk' with rfl|rfl|rfl|rfl|rfl|rfl|rfl|rfl
 ·skip
  conv=>whnf
  refine⟨rfl,⟨by simp,by simp⟩,?_⟩
  conv=>whnf
  refine⟨rfl,_,rfl,?_⟩
  conv=>whnf
  refine callV_of (fn:=Go.Proofs.Tryz.f72) (body:=_) tab_ok mixed rfl rfl (by decide) (by simp[Go.Proofs.Tryz.f72]) ?_
  conv=>whnf
  refine callV_pure (oright_ok false r) ⟨.fr rfl,trivial⟩ ?_
  conv=>whnf
  refine⟨_,_,_,Ends.here,?_⟩
  conv=>whnf
  cases hc:prefOk r.pfx && rightA r.attrs with
  | true=>
   conv=>whnf
   exact⟨⟨(1,a),by simp only;omega,by show(sayK s pe pol r (1 - 1)).bind _=_;rw[hq];(simp only[Option.bind_some,stepS,hc,if_true])⟩,(Wk.i (by repeat' (first|exact LHa|exact⟨id,id,rfl,rfl,LeR.out (rowsF_le (by omega))⟩|exact LeL.freeV (cellsOut_free s pe pol m)|exact LeL.freeV (cellsRt_free false r)|exact .A|exact LeL.fr rfl|exact LHb|refine Or.inl ⟨by simp,_,rfl,?_⟩|exact Or.inr ⟨by simp,_,_,_,_,rfl⟩|refine⟨rfl,rfl,rfl,rfl,rfl,rfl,?_⟩|refine⟨?_,?_⟩)) (by omega)),by simp only;omega⟩
  | false=>
   have hn:sayO s pe pol r=none:=sayK_none (n:=6) (k:=1) (by show(sayK s pe pol r (1 - 1)).bind _=_;rw[hq];(simp[stepS,hc]))
   conv=>whnf
   exact⟨.tup [encA true noA,.bool false],[(0,varOut s pe pol m)],1,(Ends.all id [] (by repeat' (first|exact LHa|exact LeL.freeV (cellsOut_free s pe pol m)|exact .tupL ⟨.noA,.fr rfl,trivial⟩|exact .A|exact LeL.fr rfl|exact LHb|refine Or.inl ⟨by simp,_,rfl,?_⟩|exact Or.inr ⟨by simp,_,_,_,_,rfl⟩|refine⟨rfl,rfl,rfl,rfl,rfl,rfl,?_⟩|refine⟨?_,?_⟩)) (fun _ _ _ _ h=>h) (fun _ _=>rfl) (by omega) (by simp)),(by rw[hn];rfl),rfl,rfl⟩
 ·skip
  conv=>whnf
  refine⟨rfl,⟨by simp,by simp⟩,?_⟩
  conv=>whnf
  refine⟨rfl,_,rfl,?_⟩
  conv=>whnf
  refine callV_of (fn:=Go.Proofs.Tryz.f73) (body:=_) tab_ok mixed rfl rfl (by decide) (by simp[Go.Proofs.Tryz.f73]) ?_
  conv=>whnf
  rw[bneW]
  cases h1:decide (r.peer.sys=pe.sys)with
  | false=>
   conv=>whnf
   refine⟨by kernel_rfl,?_⟩
   conv=>whnf
   refine⟨_,_,_,Ends.here,?_⟩
   conv=>whnf
   exact⟨⟨(2,a),by simp only;omega,by show(sayK s pe pol r (2 - 1)).bind _=_;rw[hq];(simp[stepS,h1])⟩,(Wk.i (by repeat' (first|exact LHa|exact⟨id,id,rfl,rfl,LeR.out (rowsF_le (by omega))⟩|exact LeL.freeV (cellsOut_free s pe pol m)|exact LeL.freeV (cellsRt_free false r)|exact .A|exact LeL.fr rfl|exact LHb|refine Or.inl ⟨by simp,_,rfl,?_⟩|exact Or.inr ⟨by simp,_,_,_,_,rfl⟩|refine⟨rfl,rfl,rfl,rfl,rfl,rfl,?_⟩|refine⟨?_,?_⟩)) (by omega)),by simp only;omega⟩
  | true=>
  conv=>whnf
  rw[bneW]
  cases h2:decide (r.peer.id=pe.id)with
  | false=>
   conv=>whnf
   refine⟨by kernel_rfl,?_⟩
   conv=>whnf
   refine⟨_,_,_,Ends.here,?_⟩
   conv=>whnf
   exact⟨⟨(2,a),by simp only;omega,by show(sayK s pe pol r (2 - 1)).bind _=_;rw[hq];(simp[stepS,h2])⟩,(Wk.i (by repeat' (first|exact LHa|exact⟨id,id,rfl,rfl,LeR.out (rowsF_le (by omega))⟩|exact LeL.freeV (cellsOut_free s pe pol m)|exact LeL.freeV (cellsRt_free false r)|exact .A|exact LeL.fr rfl|exact LHb|refine Or.inl ⟨by simp,_,rfl,?_⟩|exact Or.inr ⟨by simp,_,_,_,_,rfl⟩|refine⟨rfl,rfl,rfl,rfl,rfl,rfl,?_⟩|refine⟨?_,?_⟩)) (by omega)),by simp only;omega⟩
  | true=>
  conv=>whnf
  rw[bneW]
  cases h3:decide (r.peer.addr=pe.addr)with
  | false=>
   conv=>whnf
   refine⟨by kernel_rfl,?_⟩
   conv=>whnf
   refine⟨_,_,_,Ends.here,?_⟩
   conv=>whnf
   exact⟨⟨(2,a),by simp only;omega,by show(sayK s pe pol r (2 - 1)).bind _=_;rw[hq];(simp[stepS,h3])⟩,(Wk.i (by repeat' (first|exact LHa|exact⟨id,id,rfl,rfl,LeR.out (rowsF_le (by omega))⟩|exact LeL.freeV (cellsOut_free s pe pol m)|exact LeL.freeV (cellsRt_free false r)|exact .A|exact LeL.fr rfl|exact LHb|refine Or.inl ⟨by simp,_,rfl,?_⟩|exact Or.inr ⟨by simp,_,_,_,_,rfl⟩|refine⟨rfl,rfl,rfl,rfl,rfl,rfl,?_⟩|refine⟨?_,?_⟩)) (by omega)),by simp only;omega⟩
  | true=>
  conv=>whnf
  refine⟨by kernel_rfl,?_⟩
  conv=>whnf
  refine⟨_,_,_,Ends.here,?_⟩
  conv=>whnf
  have hn:sayO s pe pol r=none:=sayK_none (n:=5) (k:=2) (by show(sayK s pe pol r (2 - 1)).bind _=_;rw[hq];(simp only[Option.bind_some,stepS,h1,h2,h3];rfl))
  conv=>whnf
  exact⟨.tup [encA true noA,.bool false],[(0,varOut s pe pol m)],1,(Ends.all id [] (by repeat' (first|exact LHa|exact LeL.freeV (cellsOut_free s pe pol m)|exact .tupL ⟨.noA,.fr rfl,trivial⟩|exact .A|exact LeL.fr rfl|exact LHb|refine Or.inl ⟨by simp,_,rfl,?_⟩|exact Or.inr ⟨by simp,_,_,_,_,rfl⟩|refine⟨rfl,rfl,rfl,rfl,rfl,rfl,?_⟩|refine⟨?_,?_⟩)) (fun _ _ _ _ h=>h) (fun _ _=>rfl) (by omega) (by simp)),(by rw[hn];rfl),rfl,rfl⟩
 ·skip
  conv=>whnf
  refine⟨rfl,⟨by simp,by simp⟩,?_⟩
  conv=>whnf
  refine⟨rfl,_,rfl,?_⟩
  conv=>whnf
  refine callV_of (fn:=Go.Proofs.Tryz.f74) (body:=_) tab_ok mixed rfl rfl (by decide) (by simp[Go.Proofs.Tryz.f74]) ?_
  conv=>whnf
  cases h1:ownR r with
  | true=>
   conv=>whnf
   refine⟨_,_,_,Ends.here,?_⟩
   conv=>whnf
   exact⟨⟨(3,a),by simp only;omega,by show(sayK s pe pol r (3 - 1)).bind _=_;rw[hq];(simp[stepS,h1])⟩,(Wk.i (by repeat' (first|exact LHa|exact⟨id,id,rfl,rfl,LeR.out (rowsF_le (by omega))⟩|exact LeL.freeV (cellsOut_free s pe pol m)|exact LeL.freeV (cellsRt_free false r)|exact .A|exact LeL.fr rfl|exact LHb|refine Or.inl ⟨by simp,_,rfl,?_⟩|exact Or.inr ⟨by simp,_,_,_,_,rfl⟩|refine⟨rfl,rfl,rfl,rfl,rfl,rfl,?_⟩|refine⟨?_,?_⟩)) (by omega)),by simp only;omega⟩
  | false=>
  conv=>whnf
  cases h2:pe.inner with
  | false=>
   conv=>whnf
   refine⟨_,_,_,Ends.here,?_⟩
   conv=>whnf
   exact⟨⟨(3,a),by simp only;omega,by show(sayK s pe pol r (3 - 1)).bind _=_;rw[hq];(simp[stepS,h2])⟩,(Wk.i (by repeat' (first|exact LHa|exact⟨id,id,rfl,rfl,LeR.out (rowsF_le (by omega))⟩|exact LeL.freeV (cellsOut_free s pe pol m)|exact LeL.freeV (cellsRt_free false r)|exact .A|exact LeL.fr rfl|exact LHb|refine Or.inl ⟨by simp,_,rfl,?_⟩|exact Or.inr ⟨by simp,_,_,_,_,rfl⟩|refine⟨rfl,rfl,rfl,rfl,rfl,rfl,?_⟩|refine⟨?_,?_⟩)) (by omega)),by simp only;omega⟩
  | true=>
  conv=>whnf
  cases h3:r.peer.inner with
  | false=>
   conv=>whnf
   refine⟨_,_,_,Ends.here,?_⟩
   conv=>whnf
   exact⟨⟨(3,a),by simp only;omega,by show(sayK s pe pol r (3 - 1)).bind _=_;rw[hq];(simp[stepS,h3])⟩,(Wk.i (by repeat' (first|exact LHa|exact⟨id,id,rfl,rfl,LeR.out (rowsF_le (by omega))⟩|exact LeL.freeV (cellsOut_free s pe pol m)|exact LeL.freeV (cellsRt_free false r)|exact .A|exact LeL.fr rfl|exact LHb|refine Or.inl ⟨by simp,_,rfl,?_⟩|exact Or.inr ⟨by simp,_,_,_,_,rfl⟩|refine⟨rfl,rfl,rfl,rfl,rfl,rfl,?_⟩|refine⟨?_,?_⟩)) (by omega)),by simp only;omega⟩
  | true=>
  conv=>whnf
  refine⟨_,_,_,Ends.here,?_⟩
  conv=>whnf
  have hn:sayO s pe pol r=none:=sayK_none (n:=4) (k:=3) (by show(sayK s pe pol r (3 - 1)).bind _=_;rw[hq];(simp only[Option.bind_some,stepS,h1,h2,h3];rfl))
  conv=>whnf
  exact⟨.tup [encA true noA,.bool false],[(0,varOut s pe pol m)],1,(Ends.all id [] (by repeat' (first|exact LHa|exact LeL.freeV (cellsOut_free s pe pol m)|exact .tupL ⟨.noA,.fr rfl,trivial⟩|exact .A|exact LeL.fr rfl|exact LHb|refine Or.inl ⟨by simp,_,rfl,?_⟩|exact Or.inr ⟨by simp,_,_,_,_,rfl⟩|refine⟨rfl,rfl,rfl,rfl,rfl,rfl,?_⟩|refine⟨?_,?_⟩)) (fun _ _ _ _ h=>h) (fun _ _=>rfl) (by omega) (by simp)),(by rw[hn];rfl),rfl,rfl⟩
 ·skip
  conv=>whnf
  refine⟨rfl,⟨by simp,by simp⟩,?_⟩
  conv=>whnf
  refine⟨rfl,_,rfl,?_⟩
  conv=>whnf
  refine callV_of (fn:=Go.Proofs.Tryz.f75) (body:=_) tab_ok mixed rfl rfl (by decide) (by simp[Go.Proofs.Tryz.f75]) ?_
  conv=>whnf
  cases hi:pe.inner with
  | true=>
   conv=>whnf
   cases hp:a.hasPref with
   | true=>
    conv=>whnf
    refine⟨_,_,_,Ends.here,?_⟩
    conv=>whnf
    exact⟨⟨(4,a),by simp only;omega,by show(sayK s pe pol r (4 - 1)).bind _=_;rw[hq];(simp[stepS,sayM,hi,hp])⟩,(Wk.i (by repeat' (first|exact LHa|exact⟨id,id,rfl,rfl,LeR.out (rowsF_le (by omega))⟩|exact LeL.freeV (cellsOut_free s pe pol m)|exact LeL.freeV (cellsRt_free false r)|exact .A|exact LeL.fr rfl|exact LHb|refine Or.inl ⟨by simp,_,rfl,?_⟩|exact Or.inr ⟨by simp,_,_,_,_,rfl⟩|refine⟨rfl,rfl,rfl,rfl,rfl,rfl,?_⟩|refine⟨?_,?_⟩)) (by omega)),by simp only;omega⟩
   | false=>
    conv=>whnf
    refine⟨by kernel_rfl,?_⟩
    conv=>whnf
    refine⟨_,_,_,Ends.here,?_⟩
    conv=>whnf
    exact⟨⟨(4,{ a with hasPref:=true,pref:=100 }),by simp only;omega,by show(sayK s pe pol r (4 - 1)).bind _=_;rw[hq];(simp[stepS,sayM,hi,hp])⟩,(Wk.i (by repeat' (first|exact LHa|exact⟨id,id,rfl,rfl,LeR.out (rowsF_le (by omega))⟩|exact LeL.freeV (cellsOut_free s pe pol m)|exact LeL.freeV (cellsRt_free false r)|exact .A|exact LeL.fr rfl|exact LHb|refine Or.inl ⟨by simp,_,rfl,?_⟩|exact Or.inr ⟨by simp,_,_,_,_,rfl⟩|refine⟨rfl,rfl,rfl,rfl,rfl,rfl,?_⟩|refine⟨?_,?_⟩)) (by omega)),by simp only;omega⟩
  | false=>
  conv=>whnf
  refine⟨by kernel_rfl,?_⟩
  conv=>whnf
  cases hm:a.hasMed with
  | false=>
   conv=>whnf
   refine⟨by kernel_rfl,?_⟩
   conv=>whnf
   refine⟨_,_,_,Ends.here,?_⟩
   conv=>whnf
   exact⟨⟨(4,{ a with hasPref:=false,pref:=0,hasMed:=false,med:=0 }),by simp only;omega,by show(sayK s pe pol r (4 - 1)).bind _=_;rw[hq];(simp[stepS,sayM,hi,hm])⟩,(Wk.i (by repeat' (first|exact LHa|exact⟨id,id,rfl,rfl,LeR.out (rowsF_le (by omega))⟩|exact LeL.freeV (cellsOut_free s pe pol m)|exact LeL.freeV (cellsRt_free false r)|exact .A|exact LeL.fr rfl|exact LHb|refine Or.inl ⟨by simp,_,rfl,?_⟩|exact Or.inr ⟨by simp,_,_,_,_,rfl⟩|refine⟨rfl,rfl,rfl,rfl,rfl,rfl,?_⟩|refine⟨?_,?_⟩)) (by omega)),by simp only;omega⟩
  | true=>
  conv=>whnf
  cases ho:ownR r with
  | false=>
   conv=>whnf
   refine⟨by kernel_rfl,?_⟩
   conv=>whnf
   refine⟨_,_,_,Ends.here,?_⟩
   conv=>whnf
   exact⟨⟨(4,{ a with hasPref:=false,pref:=0,hasMed:=false,med:=0 }),by simp only;omega,by show(sayK s pe pol r (4 - 1)).bind _=_;rw[hq];(simp[stepS,sayM,hi,hm,ho])⟩,(Wk.i (by repeat' (first|exact LHa|exact⟨id,id,rfl,rfl,LeR.out (rowsF_le (by omega))⟩|exact LeL.freeV (cellsOut_free s pe pol m)|exact LeL.freeV (cellsRt_free false r)|exact .A|exact LeL.fr rfl|exact LHb|refine Or.inl ⟨by simp,_,rfl,?_⟩|exact Or.inr ⟨by simp,_,_,_,_,rfl⟩|refine⟨rfl,rfl,rfl,rfl,rfl,rfl,?_⟩|refine⟨?_,?_⟩)) (by omega)),by simp only;omega⟩
  | true=>
  conv=>whnf
  refine⟨by kernel_rfl,?_⟩
  conv=>whnf
  refine⟨_,_,_,Ends.here,?_⟩
  conv=>whnf
  exact⟨⟨(4,{ a with hasPref:=false,pref:=0,hasMed:=true }),by simp only;omega,by show(sayK s pe pol r (4 - 1)).bind _=_;rw[hq];(simp[stepS,sayM,hi,hm,ho])⟩,(Wk.i (by repeat' (first|exact LHa|exact⟨id,id,rfl,rfl,LeR.out (rowsF_le (by omega))⟩|exact LeL.freeV (cellsOut_free s pe pol m)|exact LeL.freeV (cellsRt_free false r)|exact .A|exact LeL.fr rfl|exact LHb|refine Or.inl ⟨by simp,_,rfl,?_⟩|exact Or.inr ⟨by simp,_,_,_,_,rfl⟩|refine⟨rfl,rfl,rfl,rfl,rfl,rfl,?_⟩|refine⟨?_,?_⟩)) (by omega)),by simp only;omega⟩
 ·skip
  conv=>whnf
  refine⟨rfl,⟨by simp,by simp⟩,?_⟩
  conv=>whnf
  refine⟨rfl,_,rfl,?_⟩
  conv=>whnf
  have hby:=by_ok false true pol s.sys r.pfx a
  rw[byV_R]at hby
  refine callV_of (fn:=Go.Proofs.Tryz.f76) (body:=_) tab_ok mixed rfl rfl (by decide) (by simp[Go.Proofs.Tryz.f76]) ?_
  conv=>whnf
  refine⟨_,[],fun h nx _=>pureV_pure hby ⟨.fr rfl,.fr rfl,.fr rfl,.fr rfl,trivial⟩,by simp,?_⟩
  conv=>whnf
  refine⟨by kernel_rfl,?_⟩
  conv=>whnf
  refine⟨_,_,_,Ends.here,?_⟩
  conv=>whnf
  cases hc:(byR pol s.sys r.pfx a).2 with
  | true=>
   conv=>whnf
   exact⟨⟨(5,(byR pol s.sys r.pfx a).1),by simp only;omega,by show(sayK s pe pol r (5 - 1)).bind _=_;rw[hq];(simp[stepS,hc])⟩,(Wk.i (by repeat' (first|exact LHa|exact⟨id,id,rfl,rfl,LeR.out (rowsF_le (by omega))⟩|exact LeL.freeV (cellsOut_free s pe pol m)|exact LeL.freeV (cellsRt_free false r)|exact .A|exact LeL.fr rfl|exact LHb|refine Or.inl ⟨by simp,_,rfl,?_⟩|exact Or.inr ⟨by simp,_,_,_,_,rfl⟩|refine⟨rfl,rfl,rfl,rfl,rfl,rfl,?_⟩|refine⟨?_,?_⟩)) (by omega)),by simp only;omega⟩
  | false=>
  have hn:sayO s pe pol r=none:=sayK_none (n:=2) (k:=5) (by show(sayK s pe pol r (5 - 1)).bind _=_;rw[hq];(simp[stepS,hc]))
  conv=>whnf
  exact⟨.tup [encA true noA,.bool false],[(0,varOut s pe pol m)],1,(Ends.all id [] (by repeat' (first|exact LHa|exact LeL.freeV (cellsOut_free s pe pol m)|exact .tupL ⟨.noA,.fr rfl,trivial⟩|exact .A|exact LeL.fr rfl|exact LHb|refine Or.inl ⟨by simp,_,rfl,?_⟩|exact Or.inr ⟨by simp,_,_,_,_,rfl⟩|refine⟨rfl,rfl,rfl,rfl,rfl,rfl,?_⟩|refine⟨?_,?_⟩)) (fun _ _ _ _ h=>h) (fun _ _=>rfl) (by omega) (by simp)),(by rw[hn];rfl),rfl,rfl⟩
 ·skip
  conv=>whnf
  refine⟨rfl,⟨by simp,by simp⟩,?_⟩
  conv=>whnf
  refine⟨rfl,_,rfl,?_⟩
  conv=>whnf
  have hpp:=prepend_ok true a s.sys 1
  refine callV_of (fn:=Go.Proofs.Tryz.f78) (body:=_) tab_ok mixed rfl rfl (by decide) (by simp[Go.Proofs.Tryz.f78]) ?_
  conv=>whnf
  cases hi:pe.inner with
  | true=>
   conv=>whnf
   refine⟨_,_,_,Ends.here,?_⟩
   conv=>whnf
   exact⟨⟨(6,a),by simp only;omega,by show(sayK s pe pol r (6 - 1)).bind _=_;rw[hq];(simp[stepS,hi])⟩,(Wk.i (by repeat' (first|exact LHa|exact⟨id,id,rfl,rfl,LeR.out (rowsF_le (by omega))⟩|exact LeL.freeV (cellsOut_free s pe pol m)|exact LeL.freeV (cellsRt_free false r)|exact .A|exact LeL.fr rfl|exact LHb|refine Or.inl ⟨by simp,_,rfl,?_⟩|exact Or.inr ⟨by simp,_,_,_,_,rfl⟩|refine⟨rfl,rfl,rfl,rfl,rfl,rfl,?_⟩|refine⟨?_,?_⟩)) (by omega)),by simp only;omega⟩
  | false=>
  conv=>whnf
  refine⟨_,[],fun h nx _=>pureV_pure hpp ⟨.fr rfl,.fr rfl,.fr rfl,trivial⟩,by simp,?_⟩
  conv=>whnf
  refine⟨by kernel_rfl,?_⟩
  conv=>whnf
  refine⟨_,_,_,Ends.here,?_⟩
  conv=>whnf
  by_cases hc:prepE a s.sys 1=0
  ·rw[show(prepE a s.sys 1 == 0)=true by simp[hc]]
   conv=>whnf
   exact⟨⟨(6,{ prepA a s.sys 1 with next:=s.addr }),by simp only;omega,by show(sayK s pe pol r (6 - 1)).bind _=_;rw[hq];(simp[stepS,hi,hc])⟩,(Wk.i (by repeat' (first|exact LHa|exact⟨id,id,rfl,rfl,LeR.out (rowsF_le (by omega))⟩|exact LeL.freeV (cellsOut_free s pe pol m)|exact LeL.freeV (cellsRt_free false r)|exact .A|exact LeL.fr rfl|exact LHb|refine Or.inl ⟨by simp,_,rfl,?_⟩|exact Or.inr ⟨by simp,_,_,_,_,rfl⟩|refine⟨rfl,rfl,rfl,rfl,rfl,rfl,?_⟩|refine⟨?_,?_⟩)) (by omega)),by simp only;omega⟩
  rw[show(prepE a s.sys 1 == 0)=false by simp[hc]]
  have hn:sayO s pe pol r=none:=sayK_none (n:=1) (k:=6) (by show(sayK s pe pol r (6 - 1)).bind _=_;rw[hq];(simp[stepS,hi,hc]))
  conv=>whnf
  exact⟨.tup [encA true noA,.bool false],[(0,varOut s pe pol m)],1,(Ends.all id [] (by repeat' (first|exact LHa|exact LeL.freeV (cellsOut_free s pe pol m)|exact .tupL ⟨.noA,.fr rfl,trivial⟩|exact .A|exact LeL.fr rfl|exact LHb|refine Or.inl ⟨by simp,_,rfl,?_⟩|exact Or.inr ⟨by simp,_,_,_,_,rfl⟩|refine⟨rfl,rfl,rfl,rfl,rfl,rfl,?_⟩|refine⟨?_,?_⟩)) (fun _ _ _ _ h=>h) (fun _ _=>rfl) (by omega) (by simp)),(by rw[hn];rfl),rfl,rfl⟩
 ·skip
  conv=>whnf
  refine⟨rfl,⟨by simp,by simp⟩,?_⟩
  conv=>whnf
  refine⟨rfl,_,rfl,?_⟩
  conv=>whnf
  have hck:=ucheck_ok false ⟨[],[r.pfx],a⟩ ⟨by simp,by simp,sayK_few hq⟩
  refine callV_of (fn:=Go.Proofs.Tryz.f80) (body:=_) tab_ok mixed rfl rfl (by decide) (by simp[Go.Proofs.Tryz.f80]) ?_
  conv=>whnf
  refine⟨.int .i64 (checkU ⟨[],[r.pfx],a⟩),[(9,some (.arr true true 31 2 (rowsP [r.pfx])))],fun h nx hrd=>?_,by intro b ob hb;simp at hb;obtain⟨rfl,rfl⟩:=hb;rfl,?_⟩
  ·have h9:hget h 9=some (.arr true true 31 2 (rowsP [r.pfx])):=hrd _ _ (by simp)
   exact pureV_lend [9] hck ⟨.aggL ⟨.snil_sl,.fresh_off (LeV.freezeR (by simp) h9 (by simp) (.free (rowsP_free [r.pfx]))),cellsA_off⟩,trivial⟩ (by intro v hv;simp at hv;subst hv;exact encU_cld _) (one_none h9) .int
  conv=>whnf
  refine⟨by kernel_rfl,?_⟩
  conv=>whnf
  refine⟨_,_,_,Ends.here,?_⟩
  conv=>whnf
  by_cases hc:checkU ⟨[],[r.pfx],a⟩=0
  ·rw[show(checkU ⟨[],[r.pfx],a⟩ == 0)=true by simp[hc]]
   conv=>whnf
   exact⟨⟨(7,a),by simp only;omega,by show(sayK s pe pol r (7 - 1)).bind _=_;rw[hq];(simp[stepS,hc])⟩,(Wk.i (by repeat' (first|exact LHa|exact⟨id,id,rfl,rfl,LeR.out (rowsF_le (by omega))⟩|exact LeL.freeV (cellsOut_free s pe pol m)|exact LeL.freeV (cellsRt_free false r)|exact .A|exact LeL.fr rfl|exact LHb|refine Or.inl ⟨by simp,_,rfl,?_⟩|exact Or.inr ⟨by simp,_,_,_,_,rfl⟩|refine⟨rfl,rfl,rfl,rfl,rfl,rfl,?_⟩|refine⟨?_,?_⟩)) (by omega)),by simp only;omega⟩
  rw[show(checkU ⟨[],[r.pfx],a⟩ == 0)=false by simp[hc]]
  have hn:sayO s pe pol r=none:=sayK_none (n:=0) (k:=7) (by show(sayK s pe pol r (7 - 1)).bind _=_;rw[hq];(simp[stepS,hc]))
  conv=>whnf
  exact⟨.tup [encA true noA,.bool false],[(0,varOut s pe pol m)],1,(Ends.all id [] (by repeat' (first|exact LHa|exact LeL.freeV (cellsOut_free s pe pol m)|exact .tupL ⟨.noA,.fr rfl,trivial⟩|exact .A|exact LeL.fr rfl|exact LHb|refine Or.inl ⟨by simp,_,rfl,?_⟩|exact Or.inr ⟨by simp,_,_,_,_,rfl⟩|refine⟨rfl,rfl,rfl,rfl,rfl,rfl,?_⟩|refine⟨?_,?_⟩)) (fun _ _ _ _ h=>h) (fun _ _=>rfl) (by omega) (by simp)),(by rw[hn];rfl),rfl,rfl⟩
 ·conv=>whnf
  exact⟨.tup [encA true a,.bool true],[(0,varOut s pe pol m)],1,(Ends.all id [] (by repeat' (first|exact LHa|exact LeL.freeV (cellsOut_free s pe pol m)|exact .tupL ⟨.fr rfl,.fr rfl,trivial⟩|exact .A|exact LeL.fr rfl|exact LHb|refine Or.inl ⟨by simp,_,rfl,?_⟩|exact Or.inr ⟨by simp,_,_,_,_,rfl⟩|refine⟨rfl,rfl,rfl,rfl,rfl,rfl,?_⟩|refine⟨?_,?_⟩)) (fun _ _ _ _ h=>h) (fun _ _=>rfl) (by omega) (by simp)),(by rw[show sayO s pe pol r=some a from hq];rfl),rfl,rfl⟩
end
def goS (out:List (List Prefix)) (p:Prefix):List (List Prefix):=
 if 0 < out.length∧checkU ⟨out.getD (out.length - 1) []++ [p],[],noA⟩=0 then out.set (out.length - 1) (out.getD (out.length - 1) []++ [p])else out ++ [[p]]
def goU (l:List Prefix):List (List Prefix):=l.foldl goS []
def goneU (l:List (List Prefix)):List Upd:=l.map fun g=>⟨g,[],noA⟩
def comF (p:Prefix) (a:Attrs) (x:List Prefix × Attrs):Bool:=decide (x.2=a)&& decide (checkU ⟨[],x.1 ++ [p],a⟩=0)
def noX:List Prefix × Attrs:=([],noA)
def comS (out:List (List Prefix × Attrs)) (e:Prefix × Attrs):List (List Prefix × Attrs):=
 if out.findIdx (comF e.1 e.2) < out.length then out.set (out.findIdx (comF e.1 e.2)) ((out.getD (out.findIdx (comF e.1 e.2)) noX).1 ++ [e.1],e.2)else out ++ [([e.1],e.2)]
def comU (l:List (Prefix × Attrs)):List (List Prefix × Attrs):=l.foldl comS []
def newU (l:List (List Prefix × Attrs)):List Upd:=l.map fun x=>⟨[],x.1,x.2⟩
theorem prefsB_ge:∀l:List Prefix,l.length≤(prefsB l).length
 | []=>by simp[prefsB]
 | p :: l=>by
  have h1:=prefsB_ge l
  have h2:=(prefB_len p).1
  have e:prefsB (p :: l)=prefB p ++ prefsB l:=rfl
  rw[e,List.length_append,List.length_cons]
  omega
theorem check_lens {u:Upd} (h:checkU u=0):u.gone.length≤493∧u.new.length≤493:=by
 obtain⟨_,hl⟩:=checkU_zero h
 rw[bodyB_parts]at hl
 have h1:=prefsB_ge u.gone
 have h2:=prefsB_ge u.new
 omega
theorem check_right {p:Prefix} {a:Attrs} (h:checkU ⟨[],[p],a⟩=0):rightA a=true:=by
 obtain⟨hm,_⟩:=checkU_zero h
 have h4:=(mayU_out hm).2.2.2
 exact saidU_some (u:=⟨[],[p],a⟩) (List.cons_ne_nil p []) h4
structure GoI (n:Nat) (out:List (List Prefix)):Prop where
 len:out.length≤n
 few:∀g∈out,g.length≤500
theorem GoI.nil:GoI 0 []:=⟨by simp,by simp⟩
theorem GoI.more {n m:Nat} {out:List (List Prefix)} (h:GoI n out) (hm:n≤m):GoI m out:=⟨by have:=h.len;omega,h.few⟩
theorem GoI.step {n:Nat} {out:List (List Prefix)} (h:GoI n out) (p:Prefix):GoI (n + 1) (goS out p):=by
 unfold goS
 split
 ·rename_i hc
  have hl:=(check_lens hc.2).1
  refine⟨by have:=h.len;simp;omega,fun g hg=>?_⟩
  rcases List.mem_or_eq_of_mem_set hg with hg|rfl
  ·exact h.few g hg
  ·simp only at hl;omega
 ·refine⟨by have:=h.len;simp;omega,fun g hg=>?_⟩
  rcases List.mem_append.1 hg with hg|hg
  ·exact h.few g hg
  ·simp at hg;subst hg;simp
structure ComI (n:Nat) (out:List (List Prefix × Attrs)):Prop where
 len:out.length≤n
 few:∀x∈out,x.1.length≤500
 right:∀x∈out,rightA x.2=true
theorem ComI.nil:ComI 0 []:=⟨by simp,by simp,by simp⟩
theorem ComI.more {n m:Nat} {out:List (List Prefix × Attrs)} (h:ComI n out) (hm:n≤m):ComI m out:=⟨by have:=h.len;omega,h.few,h.right⟩
theorem com_at {out:List (List Prefix × Attrs)} {e:Prefix × Attrs} (h:out.findIdx (comF e.1 e.2) < out.length):out[out.findIdx (comF e.1 e.2)].2=e.2∧checkU ⟨[],out[out.findIdx (comF e.1 e.2)].1 ++ [e.1],e.2⟩=0:=by
 have:=List.findIdx_getElem (p:=comF e.1 e.2) (w:=h)
 simpa[comF]using this
theorem ComI.step {n:Nat} {out:List (List Prefix × Attrs)} (h:ComI n out) {e:Prefix × Attrs} (he:rightA e.2=true):ComI (n + 1) (comS out e):=by
 unfold comS
 split
 ·rename_i hc
  have hk:=com_at hc
  have hl:=(check_lens hk.2).2
  have hgd:(out.getD (out.findIdx (comF e.1 e.2)) noX)=out[out.findIdx (comF e.1 e.2)]:=by simp[List.getD,hc]
  refine⟨by have:=h.len;simp;omega,fun x hx=>?_,fun x hx=>?_⟩
  ·rcases List.mem_or_eq_of_mem_set hx with hx|rfl
   ·exact h.few x hx
   ·simp only at hl ⊢;rw[hgd];omega
  ·rcases List.mem_or_eq_of_mem_set hx with hx|rfl
   ·exact h.right x hx
   ·exact he
 ·refine⟨by have:=h.len;simp;omega,fun x hx=>?_,fun x hx=>?_⟩
  ·rcases List.mem_append.1 hx with hx|hx
   ·exact h.few x hx
   ·simp at hx;subst hx;simp
  ·rcases List.mem_append.1 hx with hx|hx
   ·exact h.right x hx
   ·simp at hx;subst hx;exact he
theorem goU_I (l:List Prefix):GoI l.length (goU l):=by
 have key:∀(l:List Prefix) (n:Nat) (out:List (List Prefix)),GoI n out→GoI (n + l.length) (l.foldl goS out):=by
  intro l
  induction l with
  | nil=>exact fun n out h=>h
  | cons p l ih=>
   intro n out h
   have:=ih (n + 1) _ (h.step p)
   rw[List.length_cons,List.foldl_cons]
   exact this.more (by omega)
 have:=key l 0 [] GoI.nil
 exact this.more (by omega)
theorem comU_I {l:List (Prefix × Attrs)} (hr:∀e∈l,rightA e.2=true):ComI l.length (comU l):=by
 have key:∀(l:List (Prefix × Attrs)) (n:Nat) (out:List (List Prefix × Attrs)),(∀e∈l,rightA e.2=true)→ComI n out→ComI (n + l.length) (l.foldl comS out):=by
  intro l
  induction l with
  | nil=>exact fun n out _ h=>h
  | cons p l ih=>
   intro n out hr h
   have:=ih (n + 1) _ (fun e he=>hr e (by simp[he])) (h.step (hr p (by simp)))
   rw[List.length_cons,List.foldl_cons]
   exact this.more (by omega)
 have:=key l 0 [] hr ComI.nil
 exact this.more (by omega)
def nowL (s:SelfL) (pe:Peer) (pol:Policy) (l:List Route):List (Prefix × Attrs):=l.filterMap fun r=>(sayO s pe pol r).map fun a=>(r.pfx,a)
def rightR (r:Route):Bool:=prefOk r.pfx && rightA r.attrs
def pfxs (l:List Route):List Prefix:=l.map fun r=>r.pfx
def okT (l:List Route):Bool:=l.all rightR && decide (pfxs l).Nodup
theorem sayO_right {s:SelfL} {pe:Peer} {pol:Policy} {r:Route} {a:Attrs} (h:sayO s pe pol r=some a):checkU ⟨[],[r.pfx],a⟩=0:=by
 have e:sayO s pe pol r=(sayK s pe pol r 6).bind fun a=>if checkU ⟨[],[r.pfx],a⟩=0 then some a else none:=rfl
 rw[e]at h
 cases hk:sayK s pe pol r 6 with
 | none=>rw[hk]at h;cases h
 | some b=>
  rw[hk]at h
  simp only[Option.bind_some]at h
  split at h
  ·cases h;assumption
  ·cases h
theorem nowL_right {s:SelfL} {pe:Peer} {pol:Policy} {l:List Route}:∀e∈nowL s pe pol l,checkU ⟨[],[e.1],e.2⟩=0:=by
 intro e he
 obtain⟨r,_,hr⟩:=List.mem_filterMap.1 he
 obtain⟨a,ha,rfl⟩:=Option.map_eq_some_iff.1 hr
 exact sayO_right ha
theorem nowL_keys {s:SelfL} {pe:Peer} {pol:Policy}:∀{l:List Route} {p:Prefix},p∈keysE (nowL s pe pol l)→p∈pfxs l:=by
 intro l p hp
 obtain⟨e,he,rfl⟩:=List.mem_map.1 hp
 obtain⟨r,h1,hr⟩:=List.mem_filterMap.1 he
 obtain⟨a,ha,rfl⟩:=Option.map_eq_some_iff.1 hr
 exact List.mem_map.2 ⟨r,h1,rfl⟩
theorem nowL_succ {s:SelfL} {pe:Peer} {pol:Policy} {l:List Route} {i:Nat} (h:i < l.length):nowL s pe pol (l.take (i + 1))=nowL s pe pol (l.take i)++ (match sayO s pe pol l[i]with|some a=>[(l[i].pfx,a)]|none=>[]):=by
 unfold nowL
 rw[List.take_succ_eq_append_getElem h,List.filterMap_append]
 congr 1
 cases ho:sayO s pe pol l[i]<;>simp[ho]
theorem nowL_len {s:SelfL} {pe:Peer} {pol:Policy} {l:List Route}:(nowL s pe pol l).length≤l.length:=List.length_filterMap_le _ _
theorem okT_out {l:List Route} (h:okT l=true):(∀r∈l,rightR r=true)∧(pfxs l).Nodup:=by
 simpa[okT]using h
theorem okT_bad {l:List Route} (h:okT l=false):∃(i:Nat) (hi:i < l.length),(∀r∈l.take i,rightR r=true)∧(pfxs (l.take i)).Nodup∧(rightR l[i]=false∨l[i].pfx∈pfxs (l.take i)):=by
 have key:∀n,n≤l.length→okT (l.take n)=false→∃(i:Nat) (hi:i < l.length),(∀r∈l.take i,rightR r=true)∧(pfxs (l.take i)).Nodup∧(rightR l[i]=false∨l[i].pfx∈pfxs (l.take i)):=by
  intro n
  induction n with
  | zero=>intro _ h;simp[okT,pfxs]at h
  | succ n ih=>
   intro hn h
   cases hk:okT (l.take n)with
   | false=>exact ih (by omega) hk
   | true=>
    obtain⟨h1,h2⟩:=okT_out hk
    refine⟨n,hn,h1,h2,?_⟩
    cases hr:rightR l[n]with
    | false=>exact .inl rfl
    | true=>
     right
     refine Classical.byContradiction fun hnm=>?_
     have:okT (l.take (n + 1))=true:=by
      rw[List.take_succ_eq_append_getElem hn]
      simp only[okT,Bool.and_eq_true,List.all_eq_true,decide_eq_true_eq]
      refine⟨fun r hm=>?_,?_⟩
      ·rcases List.mem_append.1 hm with hm|hm
       ·exact h1 r hm
       ·simp at hm;subst hm;exact hr
      ·simp only[pfxs,List.map_append,List.map_cons,List.map_nil]
       rw[List.nodup_append]
       refine⟨h2,by simp,?_⟩
       intro x hx y hy e
       simp at hy
       subst hy;subst e
       exact hnm hx
     rw[this]at h;cases h
 exact key l.length (Nat.le_refl _) (by rw[List.take_length];exact h)
end Go.Proofs.YteogfjpaljbkoaaGreat
