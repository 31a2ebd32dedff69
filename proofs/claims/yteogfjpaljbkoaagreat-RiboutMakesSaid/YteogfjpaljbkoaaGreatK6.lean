/- Joined: O4, O5, O6, O7, O8, O9, O10, O11, O12, O13, O14, O15, O16, O17, O18, RP26. -/
import Derived.Test.YteogfjpaljbkoaaGreatK5
import Derived.Test.YteogfjpaljbkoaaGreatK3
set_option linter.unusedVariables false
set_option linter.unusedSimpArgs false
set_option maxRecDepth 100000
set_option maxHeartbeats 16000000
namespace Go.Proofs.YteogfjpaljbkoaaGreat
open Go.RowKit
section
open Go.Proofs.Tryz (prog)
attribute [local irreducible] CallV RoundV aggK
theorem sortedO_ok (m:List (Prefix × Attrs)) (hb:m.length≤1000):PCon prog 50 [.imap false (esA m)] (encPs true (sortPs (keysE m))):=by
 refine callV_of (fn:=Go.Proofs.Tryz.f50) (body:=_) tab_ok mixed rfl rfl (by decide) (by simp[Go.Proofs.Tryz.f50]) ?_
 conv=>whnf
 refine callV_of (fn:=Go.Proofs.Tryz.f96) (body:=_) tab_ok mixed rfl rfl (by decide) (by simp[Go.Proofs.Tryz.f96]) ?_
 conv=>whnf
 refine⟨_,_,_,Ends.here,?_⟩
 conv=>whnf
 refine callV_of (fn:=Go.Proofs.Tryz.f95) (body:=_) tab_ok mixed rfl rfl (by decide) (by simp[Go.Proofs.Tryz.f95]) ?_
 conv=>whnf
 refine callV_of (fn:=Go.Proofs.Tryz.f142) (body:=_) tab_ok mixed rfl rfl (by decide) (by simp[Go.Proofs.Tryz.f142]) ?_
 conv=>whnf
 refine callV_of (fn:=Go.Proofs.Tryz.f172) (body:=_) tab_ok mixed rfl rfl (by decide) (by simp[Go.Proofs.Tryz.f172]) ?_
 conv=>whnf
 refine callV_loop [(2,.ptr 1 0)] ⟨rfl,trivial⟩ fun asg' body' hasg hbody=>?_
 refine callV_of (fn:=Go.Proofs.Tryz.f144) (body:=_) tab_ok mixed rfl rfl (by decide) (by simp[Go.Proofs.Tryz.f144]) ?_
 conv=>whnf
 refine vcg_loop tab_ok mixed (fun p:{p:List Prefix × List (Prefix × Attrs) // (p.1 ++ keysE p.2).Perm (keysE m)}=>⟨[(0,.yld 2),(5,.ptr 3 0)],[(2,some (.loop 13 [(2,.ptr 1 0)] [7] asg' body' .ready none)),(1,some (.var true 84 [.osl 4 2 0 p.1.1.length])),(3,some (.iter none (esA p.1.2))),(4,some (.arr true false 31 2 (rowsP p.1.1)))],5⟩) (fun p=>p.1.2.length) ⟨([],m),by simp⟩ ?_ (fun p=>?_)
 ·refine Wk.of id [] ⟨.yld rfl (by omega),.ptr rfl (by omega),trivial⟩ (LeH.of ⟨⟨by omega,.inl ⟨by simp,_,rfl,rfl,rfl,rfl,rfl,rfl,rfl,.ptr rfl (by omega),trivial⟩⟩,⟨by omega,.inl ⟨by simp,_,rfl,id,rfl,.osl0,trivial⟩⟩,⟨by omega,.inl ⟨by simp,_,rfl,LeB.iter rfl (esA_free _)⟩⟩,⟨by omega,.inr ⟨by simp,_,_,_,_,rfl⟩⟩,trivial⟩ (fun _ _ _ _ h=>h) (fun _ _=>rfl) (by omega) (by simp))
 obtain⟨⟨xs,rest⟩,hp⟩:=p
 conv=>whnf
 refine⟨fun h0=>?_,fun k kv hk=>?_⟩
 ·have h0:rest=[]:=by simpa[esA]using h0
  subst h0
  rw[show keysE ([]:List (Prefix × Attrs))=[]from rfl,List.append_nil]at hp
  conv=>whnf
  refine⟨_,_,_,Ends.here,?_⟩
  conv=>whnf
  refine⟨_,_,_,Ends.here,?_⟩
  conv=>whnf
  refine⟨_,_,_,Ends.here,?_⟩
  conv=>whnf
  have hxl:xs.length≤1000:=by
   have h1:xs.length=(keysE m).length:=hp.length_eq
   have h2:(keysE m).length=m.length:=by simp[keysE]
   omega
  refine callV_frame (nx:=5) (n0:=1) (renOf [(0,4)]) (sortF_ok true false xs (by omega)) (by repeat' (first|exact True.intro|exact .osl_of rfl (by omega) rfl|exact .free (.fn (by simp) (by simp))|exact LeB.arrE rfl (rowsP_free _) id id|exact .A|exact LeL.fr rfl|refine⟨?_,?_⟩)) (LeH.of (by repeat' (first|exact LHa|exact .osl_of rfl (by omega) rfl|exact .free (.fn (by simp) (by simp))|exact LeB.arrE rfl (rowsP_free _) id id|exact .A|exact LeL.fr rfl|exact LHb|refine Or.inl ⟨by simp,_,rfl,?_⟩|exact Or.inr ⟨by simp,_,_,_,_,rfl⟩|refine⟨rfl,rfl,rfl,rfl,rfl,rfl,?_⟩|refine⟨?_,?_⟩)) (show ∀b∈([0]:List Nat),∀b'∈([0]:List Nat),(renOf [(0,4)]) b=(renOf [(0,4)]) b'→b=b' by decide) (fun _ h=>by omega) (by omega) (by simp)) (fun b hb=>by match b,hb with|0,_=>exact ne_none_of rfl) (by decide) ?_
  rintro v h' nx' ⟨rfl,rfl,rfl⟩ _
  refine⟨.tup [],[(4,some (.arr true false 31 2 (rowsP (sortPs xs))))],.free (.tup (by simp)),(by repeat' (first|exact True.intro|exact Or.inr ⟨by decide,rfl⟩|exact Or.inl ⟨0,rfl,by omega,_,rfl,RenB.arr (rowsP_free _)⟩|refine⟨?_,?_⟩)),?_⟩
  conv=>whnf
  refine⟨_,_,_,Ends.here,?_⟩
  conv=>whnf
  have hs:sortPs xs=sortPs (keysE m):=sortPs_perm (by simpa using hp)
  exact Ends.pure [4] (LeV.freeze_of (by simp) rfl (by simp[sortPs_len]) (rowsP_free _) (by rw[hs];exact List.take_of_length_le (by simp[sortPs_len,← hs]))) (one_none rfl)
 ·obtain⟨p,hpk,rfl⟩:∃p,rest[k]? = some p∧kv=(encP p.1,encA false p.2):=by
   simp only[esA,List.getElem?_map,Option.map_eq_some_iff]at hk
   obtain⟨p,h1,h2⟩:=hk
   exact⟨p,h1,h2.symm⟩
  conv=>whnf
  subst hasg hbody
  refine roundV_of tab_ok mixed rfl (by simp) (show 2 < 6 by omega) ?_
  conv=>whnf
  have hlen:xs.length + 1≤1000:=by
   have h1:=hp.length_eq
   have h2:(keysE m).length=m.length:=by simp[keysE]
   have h3:k < rest.length:=(List.getElem?_eq_some_iff.1 hpk).1
   simp only[List.length_append,keysE,List.length_map]at h1 h2
   omega
  refine⟨rfl,by first|rfl|(simp;done),by first|rfl|(simp;done),⟨rfl,rfl,rfl,rfl,by decide⟩,by simp[rowsP],⟨by simp[tab,tabOf,nth];omega,by simp;omega⟩,?_⟩
  conv=>whnf
  refine⟨rfl,?_⟩
  conv=>whnf
  have hperm:((xs ++ [p.1])++ keysE (rest.eraseIdx k)).Perm (keysE m):=by
    have h1:(keysE rest)[k]? = some p.1:=by simp[keysE,hpk]
    have h2:keysE (rest.eraseIdx k)=(keysE rest).eraseIdx k:=keys_erase rest k
    rw[h2]
    exact(perm_step h1).trans hp
  refine⟨⟨(xs ++ [p.1],rest.eraseIdx k),hperm⟩,Wk.of (renOf [(4,8)]) [] ⟨.yld rfl (by omega),.ptr rfl (by omega),trivial⟩ (LeH.of ⟨⟨by omega,.inl ⟨by simp,_,rfl,rfl,rfl,rfl,rfl,rfl,rfl,.ptr rfl (by omega),trivial⟩⟩,⟨by omega,.inl ⟨by simp,_,rfl,id,rfl,.osl_of rfl (by omega) (by simp),trivial⟩⟩,⟨by omega,.inl ⟨by simp,_,rfl,LeB.iter (esA_erase rest k) (fun kv h=>esA_free _ kv (List.mem_of_mem_eraseIdx h))⟩⟩,⟨by omega,.inl ⟨by simp,_,rfl,LeB.arrE (by simp[rowsP];exact⟨List.take_of_length_le (by simp),rfl⟩) (fun x hx v hv=>by
   rcases List.mem_append.1 hx with h|h
   ·exact rowsP_free xs x (List.mem_of_mem_take h) v hv
   ·simp at h;subst h;simp at hv;rcases hv with rfl|rfl<;>exact .int) id id⟩⟩,trivial⟩ (show ∀b∈([2,1,3,4]:List Nat),∀b'∈([2,1,3,4]:List Nat),renOf [(4,8)] b=renOf [(4,8)] b'→b=b' by decide) (show ∀b,b < 3→renOf [(4,8)] b=b by decide) (by omega) (by simp)),?_⟩
  show(rest.eraseIdx k).length < rest.length
  have:=(List.getElem?_eq_some_iff.1 hpk).1
  rw[List.length_eraseIdx]
  split<;>omega
theorem clonePs_own (fr:Bool) (l:List Prefix) (hl:l.length≤1000):OCon prog 141 [encPs fr l] true false 31 2 l.length (rowsP l):=by
 rcases l with _|⟨x,l⟩
 ·refine callV_of (fn:=Go.Proofs.Tryz.f141) (body:=_) tab_ok mixed rfl rfl (by decide) (by simp[Go.Proofs.Tryz.f141]) ?_
  conv=>whnf
  refine⟨?_,?_⟩
  ·conv=>whnf
   exact Ends.ownNil
  ·conv=>whnf
   refine⟨⟨rfl,rfl,rfl,rfl,by decide⟩,by simp,⟨by simp[tab,tabOf,nth],by simp⟩,?_⟩
   conv=>whnf
   exact Ends.own rfl (by simp) rfl rfl
 ·refine callV_of (fn:=Go.Proofs.Tryz.f141) (body:=_) tab_ok mixed rfl rfl (by decide) (by simp[Go.Proofs.Tryz.f141]) ?_
  conv=>whnf
  refine⟨⟨rfl,rfl,rfl,rfl,by decide⟩,by simp,⟨by simp[tab,tabOf,nth]at *;omega,by simp at *;omega⟩,?_⟩
  conv=>whnf
  exact Ends.own rfl (rowsP_free (x :: l)) (by simp) rfl
theorem rowsP_ff (l:List Prefix):∀x∈rowsP l,∀v∈x,Free v∧Fresh v:=by
 intro x hx v hv
 obtain⟨p,_,rfl⟩:=List.mem_map.1 hx
 simp[cellsP]at hv
 rcases hv with rfl|rfl<;>exact⟨.int,.int⟩
section
variable {h : Heap} {nx nx' : Nat} {ρ : Nat → Nat} {Z : List Nat}
theorem LeR.app:∀{xs ys xs' ys':List (List V)},LeR h nx ρ nx' Z xs ys→LeR h nx ρ nx' Z xs' ys'→LeR h nx ρ nx' Z (xs ++ xs') (ys ++ ys')
 | [],[],_,_,_,h2=>h2
 | x :: xs,y :: ys,_,_,h1,h2=>⟨h1.1,LeR.app h1.2 h2⟩
 | [],_ :: _,_,_,h1,_=>h1.elim
 | _ :: _,[],_,_,h1,_=>h1.elim
theorem LeR.set:∀{xs ys:List (List V)} {x y:List V} {k:Nat},LeR h nx ρ nx' Z xs ys→LeL h nx ρ nx' Z x y→LeR h nx ρ nx' Z (xs.set k x) (ys.set k y)
 | [],[],_,_,_,_,_=>trivial
 | a :: xs,b :: ys,x,y,0,h1,h2=>⟨h2,h1.2⟩
 | a :: xs,b :: ys,x,y,k + 1,h1,h2=>⟨h1.1,LeR.set h1.2 h2⟩
 | [],_ :: _,_,_,_,h1,_=>h1.elim
 | _ :: _,[],_,_,_,h1,_=>h1.elim
end
theorem LeR.of_eq' {h:Heap} {nx nx':Nat} {ρ:Nat→Nat} {Z:List Nat} {xs ys zs:List (List V)} (hr:LeR h nx ρ nx' Z xs ys) (e:ys=zs):LeR h nx ρ nx' Z xs zs:=e▸hr
theorem snocP (l:List Prefix) (p:Prefix):List.take (l.length + (List.take 1 (List.drop 0 [[cW p.addr,cB p.len]])).length) (List.drop 0 (List.take l.length (rowsP l)++ List.take 1 (List.drop 0 [[cW p.addr,cB p.len]])))=rowsP (l ++ [p]):=by
 show List.take (l.length + 1) (List.take l.length (rowsP l)++ [cellsP p])=rowsP (l ++ [p])
 rw[List.take_of_length_le (Nat.le_of_eq (by simp):(rowsP l).length≤l.length),List.take_of_length_le (by simp)]
 simp[rowsP]
theorem idP (l:List Prefix):List.take l.length (List.drop 0 (rowsP l))=rowsP l:=by simp[rowsP,List.take_of_length_le]
abbrev rowsUt (l:List Upd):List (List V):=l.map (cellsU true)
theorem rowsUt_ff (l:List Upd):∀x∈rowsUt l,∀v∈x,Free v∧Fresh v:=by
 intro x hx v hv
 obtain⟨u,_,rfl⟩:=List.mem_map.1 hx
 refine⟨cellsU_free true u v hv,?_⟩
 rcases List.mem_cons.1 hv with rfl|hv
 ·exact .sl fun x hx v hv=>(rowsP_ff u.gone x hx v hv).2
 rcases List.mem_cons.1 hv with rfl|hv
 ·exact .sl fun x hx v hv=>(rowsP_ff u.new x hx v hv).2
 simp only[cellsA,List.mem_cons,List.not_mem_nil,or_false]at hv
 rcases hv with rfl|rfl|rfl|rfl|rfl|rfl|rfl|rfl<;>first|exact .int|exact .bool|exact encLegs_fresh _|exact encW_fresh _
theorem rowsUt_free (l:List Upd):∀x∈rowsUt l,∀v∈x,Free v:=fun x hx v hv=>(rowsUt_ff l x hx v hv).1
theorem idxUt {l:List Upd} {k:Nat} (h:k < l.length):(rowsUt l)[k]? = some (cellsU true l[k]):=by simp[h]
def noUp:Upd:=⟨[],[],noA⟩
def moreG (u:Upd) (p:Prefix):Upd:={ u with gone:=u.gone ++ [p] }
def moreN (u:Upd) (p:Prefix):Upd:={ u with new:=u.new ++ [p] }
def fitU (more:Upd→Prefix→Upd) (us:List Upd) (k:Nat) (p:Prefix):Bool:=decide (checkU (more (us.getD k noUp) p)=0)
def putU (more:Upd→Prefix→Upd) (us:List Upd) (k:Nat) (p:Prefix):List Upd:=if fitU more us k p then us.set k (more (us.getD k noUp) p)else us
abbrev arrU (us:List Upd):Option Blk:=some (.arr true false 86 10 (rowsUt us))
abbrev varP (p:Prefix):Option Blk:=some (.var true 31 (cellsP p))
def FitC (g:FuncId) (more:Upd→Prefix→Upd) (us:List Upd) (k:Nat) (p:Prefix):Prop:=
 CallV prog 92 [.eptr 0 10 k 0,.fn (.func g) [] [.ptr 1 0]] [(0,arrU us),(1,varP p)] 2 (fun v h nx=>v=.bool (fitU more us k p)∧h=[(0,arrU (putU more us k p)),(1,varP p)]∧nx=2)
theorem fitG_ok (us:List Upd) (k:Nat) (hk:k < us.length) (p:Prefix) (hg:us[k].gone.length≤900) (hn:us[k].new.length≤900) (ha:smallA us[k].attrs∧fewA us[k].attrs=true):FitC 91 moreG us k p:=by
 have hcg:=clonePs_own false us[k].gone (by omega)
 have hcn:=clonePs_own false us[k].new (by omega)
 have hcp:=copy_pure true us[k].attrs ha.1.1 ha.1.2.1 ha.1.2.2
 have hgd:us.getD k noUp=us[k]:=by simp[hk]
 have hck:=ucheck_ok false (moreG us[k] p) ⟨by simp[moreG];omega,by simp[moreG];omega,ha.2⟩
 unfold FitC
 refine callV_of (fn:=Go.Proofs.Tryz.f92) (body:=_) tab_ok mixed rfl rfl (by decide) (by simp[Go.Proofs.Tryz.f92]) ?_
 conv=>whnf
 refine⟨rfl,_,idxUt hk,?_⟩
 conv=>whnf
 refine⟨.osl 2 2 0 us[k].gone.length,[],.arr true false 31 2 (rowsP us[k].gone),fun h nx _=>newV_own [] hcg ⟨.fresh_off (.fr rfl),trivial⟩ (by intro v hv;simp at hv;subst hv;exact encPs_cold _) (by simp) (rowsP_ff _),by simp,?_⟩
 conv=>whnf
 refine⟨rfl,_,idxUt hk,?_⟩
 conv=>whnf
 refine⟨.osl 3 2 0 us[k].new.length,[],.arr true false 31 2 (rowsP us[k].new),fun h nx _=>newV_own [] hcn ⟨.fresh_off (.fr rfl),trivial⟩ (by intro v hv;simp at hv;subst hv;exact encPs_cold _) (by simp) (rowsP_ff _),by simp,?_⟩
 conv=>whnf
 refine⟨rfl,_,idxUt hk,?_⟩
 conv=>whnf
 refine⟨_,[],fun h nx _=>pureV_pure hcp ⟨.fr rfl,trivial⟩,by simp,?_⟩
 conv=>whnf
 refine⟨by kernel_rfl,?_⟩
 conv=>whnf
 refine callV_of (fn:=Go.Proofs.Tryz.f91) (body:=_) tab_ok mixed rfl rfl (by decide) (by simp[Go.Proofs.Tryz.f91]) ?_
 conv=>whnf
 refine⟨rfl,by simp,?_⟩
 conv=>whnf
 refine⟨⟨rfl,rfl,rfl,rfl,by decide⟩,by simp,⟨by simp[tab,tabOf,nth];omega,by simp;omega⟩,?_⟩
 conv=>whnf
 refine⟨by kernel_rfl,?_⟩
 conv=>whnf
 refine⟨_,_,_,Ends.here,?_⟩
 conv=>whnf
 refine callV_lend [6,3] hck ⟨.aggL ⟨.fresh_off (.freezeE (by simp) rfl (by simp) (snocP _ _) (rowsP_free _)),.fresh_off (.freezeE (by simp) rfl (by simp) (idP _) (rowsP_free _)),cellsA_off⟩,trivial⟩ (by intro v hv;simp at hv;subst hv;exact encU_cld _) (by intro z hz;simp only[List.mem_cons,List.not_mem_nil,or_false]at hz;rcases hz with rfl|rfl<;>exact ne_none_of rfl) .int ?_
 by_cases hc:checkU (moreG us[k] p)=0
 ·rw[show(moreG us[k] p)=_ from rfl]at hc
  have ef:fitU moreG us k p=true:=by simp only[fitU,hgd];exact decide_eq_true hc
  conv=>whnf
  rw[show(checkU (moreG us[k] p) != 0)=false by simp[hc]]
  conv=>whnf
  refine⟨rfl,_,idxUt hk,?_⟩
  conv=>whnf
  refine⟨.bool true,[(0,arrU (us.set k (moreG us[k] p))),(1,varP p)],2,(Ends.all id [6,3] (by repeat' (first|exact LHa|exact⟨id,id,rfl,rfl,LeR.out (LeR.of_eq' (LeR.set (LeR.free (rowsUt_free us)) (y:=cellsU true (moreG us[k] p)) ⟨LeV.freezeE (by simp) rfl (by simp) (snocP _ _) (rowsP_free _),LeV.freezeE (by simp) rfl (by simp) (idP _) (rowsP_free _),.fr rfl,.fr rfl,.fr rfl,.fr rfl,.fr rfl,.fr rfl,.fr rfl,.fr rfl,trivial⟩) (by simp))⟩|exact .A|exact LeL.fr rfl|exact LHb|refine Or.inl ⟨by simp,_,rfl,?_⟩|exact Or.inr ⟨by simp,_,_,_,_,rfl⟩|refine⟨rfl,rfl,rfl,rfl,rfl,rfl,?_⟩|refine⟨?_,?_⟩)) (fun _ _ _ _ h=>h) (fun _ _=>rfl) (by omega) (by intro z hz;simp only[List.mem_cons,List.not_mem_nil,or_false]at hz;rcases hz with rfl|rfl<;>exact ne_none_of rfl)),?_,?_,rfl⟩
  ·rw[ef]
  ·simp only[putU,ef,if_true,hgd]
 ·have ef:fitU moreG us k p=false:=by simp only[fitU,hgd];exact decide_eq_false hc
  conv=>whnf
  rw[show(checkU (moreG us[k] p) != 0)=true by simp[hc]]
  conv=>whnf
  refine⟨.bool false,[(0,arrU us),(1,varP p)],2,(Ends.all id [] (by repeat' (first|exact LHa|exact⟨id,id,rfl,rfl,LeR.out (LeR.free (rowsUt_free us))⟩|exact .A|exact LeL.fr rfl|exact LHb|refine Or.inl ⟨by simp,_,rfl,?_⟩|exact Or.inr ⟨by simp,_,_,_,_,rfl⟩|refine⟨rfl,rfl,rfl,rfl,rfl,rfl,?_⟩|refine⟨?_,?_⟩)) (fun _ _ _ _ h=>h) (fun _ _=>rfl) (by omega) (by simp)),?_,?_,rfl⟩
  ·rw[ef]
  ·simp only[putU,ef,Bool.false_eq_true,if_false]
theorem fitN_ok (us:List Upd) (k:Nat) (hk:k < us.length) (p:Prefix) (hg:us[k].gone.length≤900) (hn:us[k].new.length≤900) (ha:smallA us[k].attrs∧fewA us[k].attrs=true):FitC 93 moreN us k p:=by
 have hcg:=clonePs_own false us[k].gone (by omega)
 have hcn:=clonePs_own false us[k].new (by omega)
 have hcp:=copy_pure true us[k].attrs ha.1.1 ha.1.2.1 ha.1.2.2
 have hgd:us.getD k noUp=us[k]:=by simp[hk]
 have hck:=ucheck_ok false (moreN us[k] p) ⟨by simp[moreN];omega,by simp[moreN];omega,ha.2⟩
 unfold FitC
 refine callV_of (fn:=Go.Proofs.Tryz.f92) (body:=_) tab_ok mixed rfl rfl (by decide) (by simp[Go.Proofs.Tryz.f92]) ?_
 conv=>whnf
 refine⟨rfl,_,idxUt hk,?_⟩
 conv=>whnf
 refine⟨.osl 2 2 0 us[k].gone.length,[],.arr true false 31 2 (rowsP us[k].gone),fun h nx _=>newV_own [] hcg ⟨.fresh_off (.fr rfl),trivial⟩ (by intro v hv;simp at hv;subst hv;exact encPs_cold _) (by simp) (rowsP_ff _),by simp,?_⟩
 conv=>whnf
 refine⟨rfl,_,idxUt hk,?_⟩
 conv=>whnf
 refine⟨.osl 3 2 0 us[k].new.length,[],.arr true false 31 2 (rowsP us[k].new),fun h nx _=>newV_own [] hcn ⟨.fresh_off (.fr rfl),trivial⟩ (by intro v hv;simp at hv;subst hv;exact encPs_cold _) (by simp) (rowsP_ff _),by simp,?_⟩
 conv=>whnf
 refine⟨rfl,_,idxUt hk,?_⟩
 conv=>whnf
 refine⟨_,[],fun h nx _=>pureV_pure hcp ⟨.fr rfl,trivial⟩,by simp,?_⟩
 conv=>whnf
 refine⟨by kernel_rfl,?_⟩
 conv=>whnf
 refine callV_of (fn:=Go.Proofs.Tryz.f93) (body:=_) tab_ok mixed rfl rfl (by decide) (by simp[Go.Proofs.Tryz.f93]) ?_
 conv=>whnf
 refine⟨rfl,by simp,?_⟩
 conv=>whnf
 refine⟨⟨rfl,rfl,rfl,rfl,by decide⟩,by simp,⟨by simp[tab,tabOf,nth];omega,by simp;omega⟩,?_⟩
 conv=>whnf
 refine⟨by kernel_rfl,?_⟩
 conv=>whnf
 refine⟨_,_,_,Ends.here,?_⟩
 conv=>whnf
 refine callV_lend [6,2] hck ⟨.aggL ⟨.fresh_off (.freezeE (by simp) rfl (by simp) (idP _) (rowsP_free _)),.fresh_off (.freezeE (by simp) rfl (by simp) (snocP _ _) (rowsP_free _)),cellsA_off⟩,trivial⟩ (by intro v hv;simp at hv;subst hv;exact encU_cld _) (by intro z hz;simp only[List.mem_cons,List.not_mem_nil,or_false]at hz;rcases hz with rfl|rfl<;>exact ne_none_of rfl) .int ?_
 by_cases hc:checkU (moreN us[k] p)=0
 ·rw[show(moreN us[k] p)=_ from rfl]at hc
  have ef:fitU moreN us k p=true:=by simp only[fitU,hgd];exact decide_eq_true hc
  conv=>whnf
  rw[show(checkU (moreN us[k] p) != 0)=false by simp[hc]]
  conv=>whnf
  refine⟨rfl,_,idxUt hk,?_⟩
  conv=>whnf
  refine⟨.bool true,[(0,arrU (us.set k (moreN us[k] p))),(1,varP p)],2,(Ends.all id [6,2] (by repeat' (first|exact LHa|exact⟨id,id,rfl,rfl,LeR.out (LeR.of_eq' (LeR.set (LeR.free (rowsUt_free us)) (y:=cellsU true (moreN us[k] p)) ⟨LeV.freezeE (by simp) rfl (by simp) (idP _) (rowsP_free _),LeV.freezeE (by simp) rfl (by simp) (snocP _ _) (rowsP_free _),.fr rfl,.fr rfl,.fr rfl,.fr rfl,.fr rfl,.fr rfl,.fr rfl,.fr rfl,trivial⟩) (by simp))⟩|exact .A|exact LeL.fr rfl|exact LHb|refine Or.inl ⟨by simp,_,rfl,?_⟩|exact Or.inr ⟨by simp,_,_,_,_,rfl⟩|refine⟨rfl,rfl,rfl,rfl,rfl,rfl,?_⟩|refine⟨?_,?_⟩)) (fun _ _ _ _ h=>h) (fun _ _=>rfl) (by omega) (by intro z hz;simp only[List.mem_cons,List.not_mem_nil,or_false]at hz;rcases hz with rfl|rfl<;>exact ne_none_of rfl)),?_,?_,rfl⟩
  ·rw[ef]
  ·simp only[putU,ef,if_true,hgd]
 ·have ef:fitU moreN us k p=false:=by simp only[fitU,hgd];exact decide_eq_false hc
  conv=>whnf
  rw[show(checkU (moreN us[k] p) != 0)=true by simp[hc]]
  conv=>whnf
  refine⟨.bool false,[(0,arrU us),(1,varP p)],2,(Ends.all id [] (by repeat' (first|exact LHa|exact⟨id,id,rfl,rfl,LeR.out (LeR.free (rowsUt_free us))⟩|exact .A|exact LeL.fr rfl|exact LHb|refine Or.inl ⟨by simp,_,rfl,?_⟩|exact Or.inr ⟨by simp,_,_,_,_,rfl⟩|refine⟨rfl,rfl,rfl,rfl,rfl,rfl,?_⟩|refine⟨?_,?_⟩)) (fun _ _ _ _ h=>h) (fun _ _=>rfl) (by omega) (by simp)),?_,?_,rfl⟩
  ·rw[ef]
  ·simp only[putU,ef,Bool.false_eq_true,if_false]
end
section
open Go.Proofs.Tryz (prog)
def goKs (K:List Prefix) (n:List (Prefix × Attrs)):List Prefix:=K.filter fun p=>!decide (p∈keysE n)
theorem goKs_succ {K:List Prefix} {n:List (Prefix × Attrs)} {i:Nat} (h:i < K.length):goKs (K.take (i + 1)) n=if K[i]∈keysE n then goKs (K.take i) n else goKs (K.take i) n ++ [K[i]]:=by
 unfold goKs
 rw[List.take_succ_eq_append_getElem h,List.filter_append]
 by_cases hm:K[i]∈keysE n<;>simp[hm]
theorem goU_snoc (l:List Prefix) (p:Prefix):goU (l ++ [p])=goS (goU l) p:=by
 unfold goU
 rw[List.foldl_append]
 rfl
theorem gone_getD (out:List (List Prefix)) (k:Nat):(goneU out).getD k noUp=⟨out.getD k [],[],noA⟩:=by
 simp only[goneU,List.getD_eq_getElem?_getD,List.getElem?_map]
 cases out[k]?<;>rfl
theorem fitG_eq (out:List (List Prefix)) (k:Nat) (p:Prefix):fitU moreG (goneU out) k p=decide (checkU ⟨out.getD k []++ [p],[],noA⟩=0):=by
 unfold fitU
 rw[gone_getD]
 rfl
theorem goS_put {out:List (List Prefix)} {p:Prefix} (h:0 < out.length) (hf:fitU moreG (goneU out) (out.length - 1) p=true):putU moreG (goneU out) (out.length - 1) p=goneU (goS out p):=by
 have hf':=hf
 rw[fitG_eq,decide_eq_true_eq]at hf
 rw[putU,if_pos hf',gone_getD,goS,if_pos ⟨h,hf⟩]
 simp[goneU,moreG,List.map_set]
theorem goS_new {out:List (List Prefix)} {p:Prefix} (hf:0 < out.length→fitU moreG (goneU out) (out.length - 1) p=false):goS out p=out ++ [[p]]:=by
 rw[goS,if_neg]
 rintro ⟨h1,h2⟩
 have:=hf h1
 rw[fitG_eq,decide_eq_false_iff_not]at this
 exact this h2
theorem gone_len (out:List (List Prefix)):(goneU out).length=out.length:=by simp[goneU]
theorem noA_few:smallA noA∧fewA noA=true:=⟨noA_small,by decide⟩
attribute [local irreducible] CallV RoundV aggK
instance {l:List Upd}:FreeRI (l.map (cellsU true)):=⟨⟨rowsUt_free l⟩⟩
theorem goes_ok (m n:List (Prefix × Attrs)) (hm:m.length≤1000) (hn:n.length≤1000) :
  OCon prog 46 [.imap false (esA m),.imap false (esA n)] true false 86 10 (goneU (goU (goKs (sortPs (keysE m)) n))).length (rowsUt (goneU (goU (goKs (sortPs (keysE m)) n)))):=by
 have hso:=sortedO_ok m hm
 have hKl:(sortPs (keysE m)).length≤1000:=by rw[sortPs_len,keysE_len];exact hm
 generalize sortPs (keysE m)=K at hso hKl ⊢
 refine callV_of (fn:=Go.Proofs.Tryz.f46) (body:=_) tab_ok mixed rfl rfl (by decide) (by simp[Go.Proofs.Tryz.f46]) ?_
 conv=>whnf
 refine callV_pure hso ⟨.fr rfl,trivial⟩ ?_
 conv=>whnf
 intro hgl
 have hgl:K.length≤maxLen:=by simpa[gd]using hgl
 conv=>whnf
 refine vcg_loop tab_ok mixed (fun i:{i:Nat // i≤K.length}=>⟨[(0,.imap false (esA m)),(1,.imap false (esA n)),(4,.osl 0 10 0 (goneU (goU (goKs (K.take i.1) n))).length),(11,encPs true K),(12,cI K.length),(13,cI i.1)],[(0,arrU (goneU (goU (goKs (K.take i.1) n))))],1⟩) (fun i=>K.length - i.1) ⟨0,by omega⟩ (Wk.i (by repeat' (first|exact LHa|exact .int_of (by simp)|exact .A|exact LeL.fr rfl|exact LHb|refine Or.inl ⟨by simp,_,rfl,?_⟩|exact Or.inr ⟨by simp,_,_,_,_,rfl⟩|refine⟨rfl,rfl,rfl,rfl,rfl,rfl,?_⟩|refine⟨?_,?_⟩)) (by omega)) (fun i=>?_)
 obtain⟨i,hi⟩:=i
 conv=>whnf
 split
 ·rename_i hc
  have hc:i < K.length:=by simpa using hc
  have hI:=goU_I (goKs (K.take i) n)
  have hL:(goKs (K.take i) n).length≤1000:=Nat.le_trans (List.length_filter_le _ _) (by rw[List.length_take];omega)
  have hI:GoI 1000 (goU (goKs (K.take i) n)):=hI.more hL
  have hs:=goKs_succ (n:=n) hc
  conv=>whnf
  refine ixK (idxP hc) ?_
  conv=>whnf
  cases hg:getE n K[i]with
  | some a=>
   rw[if_pos (getE_key hg)]at hs
   refine⟨esA_keys _,keyP _,some (encA false a),look_some hg,?_⟩
   conv=>whnf
   exact⟨⟨i + 1,by omega⟩,(Wk.i (by repeat' (first|exact LHa|exact .int_of (wrap64_succ hc hgl)|exact .osl_of rfl (by omega) (by simp only[hs])|exact LeB.fr (by simp only[hs]) id id|exact .A|exact LeL.fr rfl|exact LHb|refine Or.inl ⟨by simp,_,rfl,?_⟩|exact Or.inr ⟨by simp,_,_,_,_,rfl⟩|refine⟨rfl,rfl,rfl,rfl,rfl,rfl,?_⟩|refine⟨?_,?_⟩)) (by omega)),by simp only;omega⟩
  | none=>
   rw[if_neg (getE_none.1 hg)]at hs
   have hs2:goU (goKs (K.take (i + 1)) n)=goS (goU (goKs (K.take i) n)) K[i]:=by rw[hs,goU_snoc]
   generalize goU (goKs (K.take i) n)=out at *
   refine⟨esA_keys _,keyP _,none,look_none hg,?_⟩
   conv=>whnf
   intro hgo
   conv=>whnf
   split
   ·rename_i hz
    have hz:0 < out.length:=by simpa[gone_len]using hz
    conv=>whnf
    intro hgo2
    have hw:IntKind.i64.wrap (((goneU out).length:Int) - 1)=((out.length - 1:Nat):Int):=by rw[gone_len,wrap64 (by omega) (by have:=hI.len;omega)];omega
    conv=>whnf
    rw[hw]
    refine⟨rfl,⟨by omega,by rw[gone_len];omega⟩,?_⟩
    conv=>whnf
    rw[show 0 + ((out.length - 1:Nat):Int).toNat=out.length - 1 by simp]
    have hf:=fitG_ok (goneU out) (out.length - 1) (by rw[gone_len];omega) K[i] (by simp only[goneU,List.getElem_map];have:=hI.few _ (List.getElem_mem (by omega:out.length - 1 < out.length));omega) (by simp[goneU]) (by simp only[goneU,List.getElem_map];exact noA_few)
    unfold FitC at hf
    refine callV_frame (nx:=3) (n0:=2) (renOf [(0,0),(1,1)]) (hf) (by repeat' (first|exact True.intro|exact .eptr rfl (by omega)|exact .fnL trivial ⟨.ptr rfl (by omega),trivial⟩|exact .A|exact LeL.fr rfl|refine⟨?_,?_⟩)) (LeH.of (by repeat' (first|exact LHa|exact .eptr rfl (by omega)|exact .fnL trivial ⟨.ptr rfl (by omega),trivial⟩|exact .A|exact LeL.fr rfl|exact LHb|refine Or.inl ⟨by simp,_,rfl,?_⟩|exact Or.inr ⟨by simp,_,_,_,_,rfl⟩|refine⟨rfl,rfl,rfl,rfl,rfl,rfl,?_⟩|refine⟨?_,?_⟩)) (show ∀b∈([0,1]:List Nat),∀b'∈([0,1]:List Nat),(renOf [(0,0),(1,1)]) b=(renOf [(0,0),(1,1)]) b'→b=b' by decide) (fun _ h=>by omega) (by omega) (by simp)) (fun b hb=>by match b,hb with|0,_=>exact ne_none_of rfl|1,_=>exact ne_none_of rfl) (by decide) ?_
    rintro v h' nx' ⟨rfl,rfl,rfl⟩ _
    refine⟨.bool (fitU moreG (goneU out) (out.length - 1) K[i]),[(0,arrU (putU moreG (goneU out) (out.length - 1) K[i])),(1,varP K[i])],.free .bool,(by repeat' (first|exact True.intro|exact Or.inr ⟨by decide,rfl⟩|exact Or.inl ⟨0,rfl,by omega,_,rfl,.arr (rowsUt_free _)⟩|exact Or.inl ⟨1,rfl,by omega,_,rfl,.var (cellsP_free _)⟩|refine⟨?_,?_⟩)),?_⟩
    cases hfb:fitU moreG (goneU out) (out.length - 1) K[i]with
    | true=>
     have hgl1:(goS out K[i]).length=out.length:=by
      rw[fitG_eq,decide_eq_true_eq]at hfb
      rw[goS,if_pos ⟨hz,hfb⟩]
      simp
     rw[goS_put hz hfb]
     conv=>whnf
     exact⟨⟨i + 1,by omega⟩,(Wk.i (by repeat' (first|exact LHa|exact .int_of (wrap64_succ hc hgl)|exact .osl_of rfl (by omega) (by simp only[hs2,gone_len,hgl1])|exact LeB.fr (by simp only[hs2]) id id|exact .A|exact LeL.fr rfl|exact LHb|refine Or.inl ⟨by simp,_,rfl,?_⟩|exact Or.inr ⟨by simp,_,_,_,_,rfl⟩|refine⟨rfl,rfl,rfl,rfl,rfl,rfl,?_⟩|refine⟨?_,?_⟩)) (by omega)),by simp only;omega⟩
    | false=>
     have hn1:goS out K[i]=out ++ [[K[i]]]:=goS_new fun _=>hfb
     rw[show putU moreG (goneU out) (out.length - 1) K[i]=goneU out by rw[putU,hfb];rfl]
     conv=>whnf
     refine⟨rfl,by simp,?_⟩
     conv=>whnf
     refine⟨⟨rfl,rfl,rfl,rfl,by decide⟩,by simp,⟨by simp[tab,tabOf,nth,gone_len];have:=hI.len;omega,by simp[gone_len];have:=hI.len;omega⟩,?_⟩
     conv=>whnf
     exact⟨⟨i + 1,by omega⟩,(Wk.all (renOf [(0,5)]) [3] (by repeat' (first|exact LHa|exact .int_of (wrap64_succ hc hgl)|exact .osl_of rfl (by omega) (by simp only[hs2,hn1];simp[goneU])|exact Or.inl ⟨by decide,_,rfl,id,id,rfl,rfl,LeR.out (LeR.of_eq' (LeR.app (LeR.of_eq (List.take_of_length_le (by simp)) (.free (rowsUt_free (goneU out)))) (ys':=rowsUt [⟨[K[i]],[],noA⟩]) ⟨⟨.freezeE (by simp) rfl (by simp) rfl (rowsP_free _),.snil_sl,.fr rfl,.snil_sl,.fr rfl,.fr rfl,.fr rfl,.fr rfl,.fr rfl,.snil_sl,trivial⟩,trivial⟩) (by simp only[hs2,hn1];simp[goneU]))⟩|exact .A|exact LeL.fr rfl|exact LHb|refine Or.inl ⟨by simp,_,rfl,?_⟩|exact Or.inr ⟨by simp,_,_,_,_,rfl⟩|refine⟨rfl,rfl,rfl,rfl,rfl,rfl,?_⟩|refine⟨?_,?_⟩)) (show ∀b∈([0]:List Nat),∀b'∈([0]:List Nat),(renOf [(0,5)]) b=(renOf [(0,5)]) b'→b=b' by decide) (fun _ h=>by omega) (by omega) (by intro z hz;simp only[List.mem_cons,List.not_mem_nil,or_false]at hz;rcases hz with rfl<;>exact ne_none_of rfl)),by simp only;omega⟩
   ·rename_i hz
    have hz:out.length=0:=by simpa[gone_len]using hz
    have hn1:goS out K[i]=out ++ [[K[i]]]:=goS_new fun h=>by omega
    conv=>whnf
    refine⟨rfl,by simp,?_⟩
    conv=>whnf
    refine⟨⟨rfl,rfl,rfl,rfl,by decide⟩,by simp,⟨by simp[tab,tabOf,nth,gone_len];have:=hI.len;omega,by simp[gone_len];have:=hI.len;omega⟩,?_⟩
    conv=>whnf
    exact⟨⟨i + 1,by omega⟩,(Wk.all (renOf [(0,5)]) [3] (by repeat' (first|exact LHa|exact .int_of (wrap64_succ hc hgl)|exact .osl_of rfl (by omega) (by simp only[hs2,hn1];simp[goneU])|exact Or.inl ⟨by decide,_,rfl,id,id,rfl,rfl,LeR.out (LeR.of_eq' (LeR.app (LeR.of_eq (List.take_of_length_le (by simp)) (.free (rowsUt_free (goneU out)))) (ys':=rowsUt [⟨[K[i]],[],noA⟩]) ⟨⟨.freezeE (by simp) rfl (by simp) rfl (rowsP_free _),.snil_sl,.fr rfl,.snil_sl,.fr rfl,.fr rfl,.fr rfl,.fr rfl,.fr rfl,.snil_sl,trivial⟩,trivial⟩) (by simp only[hs2,hn1];simp[goneU]))⟩|exact .A|exact LeL.fr rfl|exact LHb|refine Or.inl ⟨by simp,_,rfl,?_⟩|exact Or.inr ⟨by simp,_,_,_,_,rfl⟩|refine⟨rfl,rfl,rfl,rfl,rfl,rfl,?_⟩|refine⟨?_,?_⟩)) (show ∀b∈([0]:List Nat),∀b'∈([0]:List Nat),(renOf [(0,5)]) b=(renOf [(0,5)]) b'→b=b' by decide) (fun _ h=>by omega) (by omega) (by intro z hz;simp only[List.mem_cons,List.not_mem_nil,or_false]at hz;rcases hz with rfl<;>exact ne_none_of rfl)),by simp only;omega⟩
 rename_i hc
 have hc:i=K.length:=by simp at hc;omega
 subst hc
 conv=>whnf
 rw[List.take_length]
 exact Ends.own rfl (rowsUt_free _) rfl rfl
end
section
open Go.Proofs.Tryz (prog)
def comOne (m n:List (Prefix × Attrs)) (p:Prefix):Option (Prefix × Attrs):=(getE n p).bind fun a=>if getE m p=some a then none else some (p,a)
def comKs (K:List Prefix) (m n:List (Prefix × Attrs)):List (Prefix × Attrs):=K.filterMap (comOne m n)
theorem comKs_succ {K:List Prefix} {m n:List (Prefix × Attrs)} {i:Nat} (h:i < K.length):comKs (K.take (i + 1)) m n=comKs (K.take i) m n ++ (comOne m n K[i]).toList:=by
 unfold comKs
 rw[List.take_succ_eq_append_getElem h,List.filterMap_append]
 cases ho:comOne m n K[i]<;>simp[ho]
theorem comU_snoc (l:List (Prefix × Attrs)) (e:Prefix × Attrs):comU (l ++ [e])=comS (comU l) e:=by
 unfold comU
 rw[List.foldl_append]
 rfl
theorem new_getD (out:List (List Prefix × Attrs)) (k:Nat):(newU out).getD k noUp=⟨[],(out.getD k noX).1,(out.getD k noX).2⟩:=by
 simp only[newU,List.getD_eq_getElem?_getD,List.getElem?_map]
 cases out[k]?<;>rfl
theorem new_len (out:List (List Prefix × Attrs)):(newU out).length=out.length:=by simp[newU]
theorem new_at (out:List (List Prefix × Attrs)) (k:Nat) (h:k < (newU out).length):(newU out)[k]=⟨[],(out[k]'(by rw[new_len]at h;exact h)).1,(out[k]'(by rw[new_len]at h;exact h)).2⟩:=by simp[newU]
theorem fitN_eq {out:List (List Prefix × Attrs)} {k:Nat} (h:k < out.length) (p:Prefix):fitU moreN (newU out) k p=decide (checkU ⟨[],out[k].1 ++ [p],out[k].2⟩=0):=by
 unfold fitU
 rw[new_getD,show out.getD k noX=out[k]by simp[h]]
 rfl
def NoF (out:List (List Prefix × Attrs)) (e:Prefix × Attrs) (k:Nat):Prop:=∀(j:Nat) (h:j < out.length),j < k→comF e.1 e.2 out[j]=false
theorem comS_hit {out:List (List Prefix × Attrs)} {e:Prefix × Attrs} {k:Nat} (h:k < out.length) (hn:NoF out e k) (hs:out[k].2=e.2) (hf:fitU moreN (newU out) k e.1=true) :
  putU moreN (newU out) k e.1=newU (comS out e)∧(comS out e).length=out.length:=by
 have hf':=hf
 rw[fitN_eq h,decide_eq_true_eq,hs]at hf
 have hi:out.findIdx (comF e.1 e.2)=k:=by
  rw[List.findIdx_eq h]
  exact⟨by simp[comF,hs,hf],fun j hj=>hn j (by omega) hj⟩
 rw[putU,if_pos hf',new_getD,comS,hi,if_pos h]
 refine⟨?_,by simp⟩
 simp only[newU,moreN,List.map_set]
 congr 2
 rw[show out.getD k noX=out[k]by simp[h],hs]
theorem comS_miss {out:List (List Prefix × Attrs)} {e:Prefix × Attrs} (hn:NoF out e out.length):comS out e=out ++ [([e.1],e.2)]:=by
 rw[comS,if_neg]
 intro h
 have h1:=List.findIdx_getElem (p:=comF e.1 e.2) (w:=h)
 rw[hn _ h h]at h1
 cases h1
theorem NoF.step {out:List (List Prefix × Attrs)} {e:Prefix × Attrs} {k:Nat} (hn:NoF out e k) (hk:k < out.length) (hc:comF e.1 e.2 out[k]=false):NoF out e (k + 1):=fun j hj hlt=>by
 rcases Nat.lt_or_ge j k with h|h
 ·exact hn j hj h
 ·obtain rfl:j=k:=by omega
  exact hc
attribute [local irreducible] CallV RoundV aggK
theorem comes_ok (m n:List (Prefix × Attrs)) (hm:m.length≤1000) (hn:n.length≤1000) (hr:∀e∈n,rightA e.2=true) :
  OCon prog 47 [.imap false (esA m),.imap false (esA n)] true false 86 10 (newU (comU (comKs (sortPs (keysE n)) m n))).length (rowsUt (newU (comU (comKs (sortPs (keysE n)) m n)))):=by
 have hso:=sortedO_ok n hn
 have hKl:(sortPs (keysE n)).length≤1000:=by rw[sortPs_len,keysE_len];exact hn
 have hKk:∀q∈sortPs (keysE n),q∈keysE n:=fun q=>mem_sortPs.1
 generalize sortPs (keysE n)=K at hso hKl hKk ⊢
 refine callV_of (fn:=Go.Proofs.Tryz.f47) (body:=_) tab_ok mixed rfl rfl (by decide) (by simp[Go.Proofs.Tryz.f47]) ?_
 conv=>whnf
 refine callV_pure hso ⟨.fr rfl,trivial⟩ ?_
 conv=>whnf
 intro hgl
 have hgl:K.length≤maxLen:=by simpa[gd]using hgl
 conv=>whnf
 refine vcg_loop tab_ok mixed (fun i:{i:Nat // i≤K.length}=>⟨[(0,.imap false (esA m)),(1,.imap false (esA n)),(4,.osl 0 10 0 (newU (comU (comKs (K.take i.1) m n))).length),(13,encPs true K),(14,cI K.length),(15,cI i.1)],[(0,arrU (newU (comU (comKs (K.take i.1) m n))))],1⟩) (fun i=>K.length - i.1) ⟨0,by omega⟩ (Wk.i (by repeat' (first|exact LHa|exact .int_of (by simp)|exact .A|exact LeL.fr rfl|exact LHb|refine Or.inl ⟨by simp,_,rfl,?_⟩|exact Or.inr ⟨by simp,_,_,_,_,rfl⟩|refine⟨rfl,rfl,rfl,rfl,rfl,rfl,?_⟩|refine⟨?_,?_⟩)) (by omega)) (fun i=>?_)
 obtain⟨i,hi⟩:=i
 conv=>whnf
 split
 ·rename_i hc
  have hc:i < K.length:=by simpa using hc
  have hcr:∀e∈comKs (K.take i) m n,rightA e.2=true:=by
   intro e he
   obtain⟨q,_,hq⟩:=List.mem_filterMap.1 he
   simp only[comOne,Option.bind_eq_some_iff]at hq
   obtain⟨a,ha,hq⟩:=hq
   split at hq
   ·cases hq
   ·cases hq;exact hr _ (getE_mem ha)
  have hI:=comU_I hcr
  have hL:(comKs (K.take i) m n).length≤1000:=Nat.le_trans (List.length_filterMap_le _ _) (by rw[List.length_take];omega)
  have hI:ComI 1000 (comU (comKs (K.take i) m n)):=hI.more hL
  have hs:=comKs_succ (m:=m) (n:=n) hc
  have hcu:=comU_snoc (comKs (K.take i) m n)
  clear hcr hL
  generalize hout:comU (comKs (K.take i) m n)=out at *
  obtain⟨a,hga⟩:=key_getE (hKk _ (List.getElem_mem hc))
  have hra:rightA a=true:=hr _ (getE_mem hga)
  have hsa:=right_sf hra
  conv=>whnf
  refine ixK (idxP hc) ?_
  conv=>whnf
  refine⟨esA_keys _,keyP _,some (encA false a),look_some hga,?_⟩
  conv=>whnf
  cases hgw:getE m K[i]with
  | some b=>
   have sab:=same_ok false false b a
   refine⟨esA_keys _,keyP _,some (encA false b),look_some hgw,?_⟩
   conv=>whnf
   refine callV_pure sab ⟨.fr rfl,.fr rfl,trivial⟩ ?_
   cases hsab:sameA b a with
   | true=>
    have hba:b=a:=by simpa[sameA]using hsab
    have hs2:comU (comKs (K.take (i + 1)) m n)=out:=by
     rw[hs,comOne,hga,Option.bind_some,if_pos (by rw[hgw,hba]),Option.toList_none,List.append_nil];exact hout
    conv=>whnf
    exact⟨⟨i + 1,by omega⟩,(Wk.i (by repeat' (first|exact LHa|exact .int_of (wrap64_succ hc hgl)|exact .osl_of rfl (by omega) (by simp only[hs2])|exact LeB.fr (by simp only[hs2]) id id|exact .A|exact LeL.fr rfl|exact LHb|refine Or.inl ⟨by simp,_,rfl,?_⟩|exact Or.inr ⟨by simp,_,_,_,_,rfl⟩|refine⟨rfl,rfl,rfl,rfl,rfl,rfl,?_⟩|refine⟨?_,?_⟩)) (by omega)),by simp only;omega⟩
   | false=>
   have hba:b ≠ a:=by simpa[sameA]using hsab
   have hs2:comU (comKs (K.take (i + 1)) m n)=comS out (K[i],a):=by
    rw[hs,comOne,hga,Option.bind_some,if_neg (by rw[hgw];simpa using hba),Option.toList_some,hcu]
   conv=>whnf
   intro hgo
   conv=>whnf
   refine vcg_loop tab_ok mixed (fun k:{k:Nat // k≤out.length∧NoF out (K[i],a) k}=>⟨[(0,.imap false (esA m)),(1,.imap false (esA n)),(4,.osl 0 10 0 (newU out).length),(6,.ptr 1 0),(7,.ptr 2 0),(10,.fn (.func 93) [] [.ptr 1 0]),(13,encPs true K),(14,cI K.length),(15,cI i),(36,cI (newU out).length),(37,cI k.1)],[(0,arrU (newU out)),(1,varP K[i]),(2,some (.var true 35 (cellsA false a)))],3⟩) (fun k=>out.length - k.1) ⟨0,by omega,fun j _ h=>by omega⟩ (Wk.i (by repeat' (first|exact LHa|exact .int_of rfl|exact .fnL trivial ⟨.ptr rfl (by omega),trivial⟩|exact .A|exact LeL.fr rfl|exact LHb|refine Or.inl ⟨by simp,_,rfl,?_⟩|exact Or.inr ⟨by simp,_,_,_,_,rfl⟩|refine⟨rfl,rfl,rfl,rfl,rfl,rfl,?_⟩|refine⟨?_,?_⟩)) (by omega)) (fun k=>?_)
   obtain⟨k,hk,hno⟩:=k
   conv=>whnf
   split
   ·rename_i hck
    have hck:k < out.length:=by simpa[new_len]using hck
    have hkn:k < (newU out).length:=by rw[new_len];exact hck
    have e1:(newU out)[k].attrs=out[k].2:=by rw[new_at]
    have e2:(newU out)[k].gone=[]:=by rw[new_at]
    have e3:(newU out)[k].new=out[k].1:=by rw[new_at]
    have hfr:=hI.few _ (List.getElem_mem hck)
    have hrr:=right_sf (hI.right _ (List.getElem_mem hck))
    have sak:=same_ok true false (newU out)[k].attrs a
    have hf:=fitN_ok (newU out) k hkn K[i] (by rw[e2];simp) (by rw[e3];omega) (by rw[e1];exact hrr)
    unfold FitC at hf
    conv=>whnf
    refine⟨rfl,⟨by simp only;omega,by simp only;omega⟩,?_⟩
    conv=>whnf
    rw[show 0 + ((k:Nat):Int).toNat=k by simp]
    refine⟨rfl,_,idxUt hkn,?_⟩
    conv=>whnf
    refine⟨_,[],fun h nx _=>pureV_pure sak ⟨.fr rfl,.fr rfl,trivial⟩,by simp,?_⟩
    cases hsm:sameA (newU out)[k].attrs a with
    | false=>
     have hcf:comF K[i] a out[k]=false:=by
      rw[e1]at hsm
      simp only[sameA,decide_eq_false_iff_not]at hsm
      simp[comF,hsm]
     conv=>whnf
     refine⟨by kernel_rfl,?_⟩
     conv=>whnf
     exact⟨⟨k + 1,by omega,hno.step hck hcf⟩,(Wk.i (by repeat' (first|exact LHa|exact .int_of (wrap64_succ hck (by have:=hI.len;simp only[maxLen];omega))|exact .fnL trivial ⟨.ptr rfl (by omega),trivial⟩|exact .A|exact LeL.fr rfl|exact LHb|refine Or.inl ⟨by simp,_,rfl,?_⟩|exact Or.inr ⟨by simp,_,_,_,_,rfl⟩|refine⟨rfl,rfl,rfl,rfl,rfl,rfl,?_⟩|refine⟨?_,?_⟩)) (by omega)),by simp only;omega⟩
    | true=>
     have hsm':out[k].2=a:=by
      rw[e1]at hsm
      simpa[sameA]using hsm
     conv=>whnf
     refine⟨rfl,⟨by simp only;omega,by simp only;omega⟩,?_⟩
     conv=>whnf
     refine⟨by kernel_rfl,?_⟩
     conv=>whnf
     rw[show 0 + ((k:Nat):Int).toNat=k by simp]
     refine callV_frame (nx:=3) (n0:=2) (renOf [(0,0),(1,1)]) (hf) (by repeat' (first|exact True.intro|exact .eptr rfl (by omega)|exact .fnL trivial ⟨.ptr rfl (by omega),trivial⟩|exact .A|exact LeL.fr rfl|refine⟨?_,?_⟩)) (LeH.of (by repeat' (first|exact LHa|exact .eptr rfl (by omega)|exact .fnL trivial ⟨.ptr rfl (by omega),trivial⟩|exact .A|exact LeL.fr rfl|exact LHb|refine Or.inl ⟨by simp,_,rfl,?_⟩|exact Or.inr ⟨by simp,_,_,_,_,rfl⟩|refine⟨rfl,rfl,rfl,rfl,rfl,rfl,?_⟩|refine⟨?_,?_⟩)) (show ∀b∈([0,1]:List Nat),∀b'∈([0,1]:List Nat),(renOf [(0,0),(1,1)]) b=(renOf [(0,0),(1,1)]) b'→b=b' by decide) (fun _ h=>by omega) (by omega) (by simp)) (fun b hb=>by match b,hb with|0,_=>exact ne_none_of rfl|1,_=>exact ne_none_of rfl) (by decide) ?_
     rintro v h' nx' ⟨rfl,rfl,rfl⟩ _
     refine⟨.bool (fitU moreN (newU out) k K[i]),[(0,arrU (putU moreN (newU out) k K[i])),(1,varP K[i]),(2,some (.var true 35 (cellsA false a)))],.free .bool,(by repeat' (first|exact True.intro|exact Or.inr ⟨by decide,rfl⟩|exact Or.inl ⟨0,rfl,by omega,_,rfl,.arr (rowsUt_free _)⟩|exact Or.inl ⟨1,rfl,by omega,_,rfl,.var (cellsP_free _)⟩|refine⟨?_,?_⟩)),?_⟩
     cases hfb:fitU moreN (newU out) k K[i]with
     | true=>
      obtain⟨hp1,hp2⟩:=comS_hit (e:=(K[i],a)) hck hno hsm' hfb
      rw[hp1]
      conv=>whnf
      exact⟨⟨i + 1,by omega⟩,(Wk.i (by repeat' (first|exact LHa|exact .int_of (wrap64_succ hc hgl)|exact .osl_of rfl (by omega) (by simp only[hs2,new_len,hp2])|exact LeB.fr (by simp only[hs2]) id id|exact .A|exact LeL.fr rfl|exact LHb|refine Or.inl ⟨by simp,_,rfl,?_⟩|exact Or.inr ⟨by simp,_,_,_,_,rfl⟩|refine⟨rfl,rfl,rfl,rfl,rfl,rfl,?_⟩|refine⟨?_,?_⟩)) (by omega)),by simp only;omega⟩
     | false=>
      have hcf:comF K[i] a out[k]=false:=by
       rw[fitN_eq hck,decide_eq_false_iff_not,hsm']at hfb
       simp[comF,hsm',hfb]
      rw[show putU moreN (newU out) k K[i]=newU out by rw[putU,hfb];rfl]
      conv=>whnf
      exact⟨⟨k + 1,by omega,hno.step hck hcf⟩,(Wk.i (by repeat' (first|exact LHa|exact .int_of (wrap64_succ hck (by have:=hI.len;simp only[maxLen];omega))|exact .fnL trivial ⟨.ptr rfl (by omega),trivial⟩|exact .A|exact LeL.fr rfl|exact LHb|refine Or.inl ⟨by simp,_,rfl,?_⟩|exact Or.inr ⟨by simp,_,_,_,_,rfl⟩|refine⟨rfl,rfl,rfl,rfl,rfl,rfl,?_⟩|refine⟨?_,?_⟩)) (by omega)),by simp only;omega⟩
   rename_i hck
   have hck:k=out.length:=by simp[new_len]at hck;omega
   subst hck
   have hn1:=comS_miss hno
   have hcp:=copy_pure false a hsa.1.1 hsa.1.2.1 hsa.1.2.2
   conv=>whnf
   refine⟨_,[],fun h nx _=>pureV_pure hcp ⟨.fr rfl,trivial⟩,by simp,?_⟩
   conv=>whnf
   refine⟨rfl,by simp,?_⟩
   conv=>whnf
   refine⟨⟨rfl,rfl,rfl,rfl,by decide⟩,by simp,⟨by simp[tab,tabOf,nth,new_len];have:=hI.len;omega,by simp[new_len];have:=hI.len;omega⟩,?_⟩
   conv=>whnf
   refine⟨by kernel_rfl,?_⟩
   conv=>whnf
   exact⟨⟨i + 1,by omega⟩,(Wk.all (renOf [(0,5)]) [3] (by repeat' (first|exact LHa|exact .int_of (wrap64_succ hc hgl)|exact .osl_of rfl (by omega) (by simp only[hs2,hn1];simp[newU])|exact Or.inl ⟨by decide,_,rfl,id,id,rfl,rfl,LeR.out (LeR.of_eq' (LeR.app (LeR.of_eq (List.take_of_length_le (by simp)) (.free (rowsUt_free (newU out)))) (ys':=rowsUt [⟨[],[K[i]],a⟩]) ⟨⟨.snil_sl,.freezeE (by simp) rfl (by simp) rfl (rowsP_free _),.fr rfl,.fr rfl,.fr rfl,.fr rfl,.fr rfl,.fr rfl,.fr rfl,.fr rfl,trivial⟩,trivial⟩) (by simp only[hs2,hn1];simp[newU]))⟩|exact .A|exact LeL.fr rfl|exact LHb|refine Or.inl ⟨by simp,_,rfl,?_⟩|exact Or.inr ⟨by simp,_,_,_,_,rfl⟩|refine⟨rfl,rfl,rfl,rfl,rfl,rfl,?_⟩|refine⟨?_,?_⟩)) (show ∀b∈([0]:List Nat),∀b'∈([0]:List Nat),(renOf [(0,5)]) b=(renOf [(0,5)]) b'→b=b' by decide) (fun _ h=>by omega) (by omega) (by intro z hz;simp only[List.mem_cons,List.not_mem_nil,or_false]at hz;rcases hz with rfl<;>exact ne_none_of rfl)),by simp only;omega⟩
  | none=>
   have hs2:comU (comKs (K.take (i + 1)) m n)=comS out (K[i],a):=by
    rw[hs,comOne,hga,Option.bind_some,if_neg (by rw[hgw];simp),Option.toList_some,hcu]
   refine⟨esA_keys _,keyP _,none,look_none hgw,?_⟩
   conv=>whnf
   intro hgo
   conv=>whnf
   refine vcg_loop tab_ok mixed (fun k:{k:Nat // k≤out.length∧NoF out (K[i],a) k}=>⟨[(0,.imap false (esA m)),(1,.imap false (esA n)),(4,.osl 0 10 0 (newU out).length),(6,.ptr 1 0),(7,.ptr 2 0),(10,.fn (.func 93) [] [.ptr 1 0]),(13,encPs true K),(14,cI K.length),(15,cI i),(36,cI (newU out).length),(37,cI k.1)],[(0,arrU (newU out)),(1,varP K[i]),(2,some (.var true 35 (cellsA false a)))],3⟩) (fun k=>out.length - k.1) ⟨0,by omega,fun j _ h=>by omega⟩ (Wk.i (by repeat' (first|exact LHa|exact .int_of rfl|exact .fnL trivial ⟨.ptr rfl (by omega),trivial⟩|exact .A|exact LeL.fr rfl|exact LHb|refine Or.inl ⟨by simp,_,rfl,?_⟩|exact Or.inr ⟨by simp,_,_,_,_,rfl⟩|refine⟨rfl,rfl,rfl,rfl,rfl,rfl,?_⟩|refine⟨?_,?_⟩)) (by omega)) (fun k=>?_)
   obtain⟨k,hk,hno⟩:=k
   conv=>whnf
   split
   ·rename_i hck
    have hck:k < out.length:=by simpa[new_len]using hck
    have hkn:k < (newU out).length:=by rw[new_len];exact hck
    have e1:(newU out)[k].attrs=out[k].2:=by rw[new_at]
    have e2:(newU out)[k].gone=[]:=by rw[new_at]
    have e3:(newU out)[k].new=out[k].1:=by rw[new_at]
    have hfr:=hI.few _ (List.getElem_mem hck)
    have hrr:=right_sf (hI.right _ (List.getElem_mem hck))
    have sak:=same_ok true false (newU out)[k].attrs a
    have hf:=fitN_ok (newU out) k hkn K[i] (by rw[e2];simp) (by rw[e3];omega) (by rw[e1];exact hrr)
    unfold FitC at hf
    conv=>whnf
    refine⟨rfl,⟨by simp only;omega,by simp only;omega⟩,?_⟩
    conv=>whnf
    rw[show 0 + ((k:Nat):Int).toNat=k by simp]
    refine⟨rfl,_,idxUt hkn,?_⟩
    conv=>whnf
    refine⟨_,[],fun h nx _=>pureV_pure sak ⟨.fr rfl,.fr rfl,trivial⟩,by simp,?_⟩
    cases hsm:sameA (newU out)[k].attrs a with
    | false=>
     have hcf:comF K[i] a out[k]=false:=by
      rw[e1]at hsm
      simp only[sameA,decide_eq_false_iff_not]at hsm
      simp[comF,hsm]
     conv=>whnf
     refine⟨by kernel_rfl,?_⟩
     conv=>whnf
     exact⟨⟨k + 1,by omega,hno.step hck hcf⟩,(Wk.i (by repeat' (first|exact LHa|exact .int_of (wrap64_succ hck (by have:=hI.len;simp only[maxLen];omega))|exact .fnL trivial ⟨.ptr rfl (by omega),trivial⟩|exact .A|exact LeL.fr rfl|exact LHb|refine Or.inl ⟨by simp,_,rfl,?_⟩|exact Or.inr ⟨by simp,_,_,_,_,rfl⟩|refine⟨rfl,rfl,rfl,rfl,rfl,rfl,?_⟩|refine⟨?_,?_⟩)) (by omega)),by simp only;omega⟩
    | true=>
     have hsm':out[k].2=a:=by
      rw[e1]at hsm
      simpa[sameA]using hsm
     conv=>whnf
     refine⟨rfl,⟨by simp only;omega,by simp only;omega⟩,?_⟩
     conv=>whnf
     refine⟨by kernel_rfl,?_⟩
     conv=>whnf
     rw[show 0 + ((k:Nat):Int).toNat=k by simp]
     refine callV_frame (nx:=3) (n0:=2) (renOf [(0,0),(1,1)]) (hf) (by repeat' (first|exact True.intro|exact .eptr rfl (by omega)|exact .fnL trivial ⟨.ptr rfl (by omega),trivial⟩|exact .A|exact LeL.fr rfl|refine⟨?_,?_⟩)) (LeH.of (by repeat' (first|exact LHa|exact .eptr rfl (by omega)|exact .fnL trivial ⟨.ptr rfl (by omega),trivial⟩|exact .A|exact LeL.fr rfl|exact LHb|refine Or.inl ⟨by simp,_,rfl,?_⟩|exact Or.inr ⟨by simp,_,_,_,_,rfl⟩|refine⟨rfl,rfl,rfl,rfl,rfl,rfl,?_⟩|refine⟨?_,?_⟩)) (show ∀b∈([0,1]:List Nat),∀b'∈([0,1]:List Nat),(renOf [(0,0),(1,1)]) b=(renOf [(0,0),(1,1)]) b'→b=b' by decide) (fun _ h=>by omega) (by omega) (by simp)) (fun b hb=>by match b,hb with|0,_=>exact ne_none_of rfl|1,_=>exact ne_none_of rfl) (by decide) ?_
     rintro v h' nx' ⟨rfl,rfl,rfl⟩ _
     refine⟨.bool (fitU moreN (newU out) k K[i]),[(0,arrU (putU moreN (newU out) k K[i])),(1,varP K[i]),(2,some (.var true 35 (cellsA false a)))],.free .bool,(by repeat' (first|exact True.intro|exact Or.inr ⟨by decide,rfl⟩|exact Or.inl ⟨0,rfl,by omega,_,rfl,.arr (rowsUt_free _)⟩|exact Or.inl ⟨1,rfl,by omega,_,rfl,.var (cellsP_free _)⟩|refine⟨?_,?_⟩)),?_⟩
     cases hfb:fitU moreN (newU out) k K[i]with
     | true=>
      obtain⟨hp1,hp2⟩:=comS_hit (e:=(K[i],a)) hck hno hsm' hfb
      rw[hp1]
      conv=>whnf
      exact⟨⟨i + 1,by omega⟩,(Wk.i (by repeat' (first|exact LHa|exact .int_of (wrap64_succ hc hgl)|exact .osl_of rfl (by omega) (by simp only[hs2,new_len,hp2])|exact LeB.fr (by simp only[hs2]) id id|exact .A|exact LeL.fr rfl|exact LHb|refine Or.inl ⟨by simp,_,rfl,?_⟩|exact Or.inr ⟨by simp,_,_,_,_,rfl⟩|refine⟨rfl,rfl,rfl,rfl,rfl,rfl,?_⟩|refine⟨?_,?_⟩)) (by omega)),by simp only;omega⟩
     | false=>
      have hcf:comF K[i] a out[k]=false:=by
       rw[fitN_eq hck,decide_eq_false_iff_not,hsm']at hfb
       simp[comF,hsm',hfb]
      rw[show putU moreN (newU out) k K[i]=newU out by rw[putU,hfb];rfl]
      conv=>whnf
      exact⟨⟨k + 1,by omega,hno.step hck hcf⟩,(Wk.i (by repeat' (first|exact LHa|exact .int_of (wrap64_succ hck (by have:=hI.len;simp only[maxLen];omega))|exact .fnL trivial ⟨.ptr rfl (by omega),trivial⟩|exact .A|exact LeL.fr rfl|exact LHb|refine Or.inl ⟨by simp,_,rfl,?_⟩|exact Or.inr ⟨by simp,_,_,_,_,rfl⟩|refine⟨rfl,rfl,rfl,rfl,rfl,rfl,?_⟩|refine⟨?_,?_⟩)) (by omega)),by simp only;omega⟩
   rename_i hck
   have hck:k=out.length:=by simp[new_len]at hck;omega
   subst hck
   have hn1:=comS_miss hno
   have hcp:=copy_pure false a hsa.1.1 hsa.1.2.1 hsa.1.2.2
   conv=>whnf
   refine⟨_,[],fun h nx _=>pureV_pure hcp ⟨.fr rfl,trivial⟩,by simp,?_⟩
   conv=>whnf
   refine⟨rfl,by simp,?_⟩
   conv=>whnf
   refine⟨⟨rfl,rfl,rfl,rfl,by decide⟩,by simp,⟨by simp[tab,tabOf,nth,new_len];have:=hI.len;omega,by simp[new_len];have:=hI.len;omega⟩,?_⟩
   conv=>whnf
   refine⟨by kernel_rfl,?_⟩
   conv=>whnf
   exact⟨⟨i + 1,by omega⟩,(Wk.all (renOf [(0,5)]) [3] (by repeat' (first|exact LHa|exact .int_of (wrap64_succ hc hgl)|exact .osl_of rfl (by omega) (by simp only[hs2,hn1];simp[newU])|exact Or.inl ⟨by decide,_,rfl,id,id,rfl,rfl,LeR.out (LeR.of_eq' (LeR.app (LeR.of_eq (List.take_of_length_le (by simp)) (.free (rowsUt_free (newU out)))) (ys':=rowsUt [⟨[],[K[i]],a⟩]) ⟨⟨.snil_sl,.freezeE (by simp) rfl (by simp) rfl (rowsP_free _),.fr rfl,.fr rfl,.fr rfl,.fr rfl,.fr rfl,.fr rfl,.fr rfl,.fr rfl,trivial⟩,trivial⟩) (by simp only[hs2,hn1];simp[newU]))⟩|exact .A|exact LeL.fr rfl|exact LHb|refine Or.inl ⟨by simp,_,rfl,?_⟩|exact Or.inr ⟨by simp,_,_,_,_,rfl⟩|refine⟨rfl,rfl,rfl,rfl,rfl,rfl,?_⟩|refine⟨?_,?_⟩)) (show ∀b∈([0]:List Nat),∀b'∈([0]:List Nat),(renOf [(0,5)]) b=(renOf [(0,5)]) b'→b=b' by decide) (fun _ h=>by omega) (by omega) (by intro z hz;simp only[List.mem_cons,List.not_mem_nil,or_false]at hz;rcases hz with rfl<;>exact ne_none_of rfl)),by simp only;omega⟩
 rename_i hc
 have hc:i=K.length:=by simp at hc;omega
 subst hc
 conv=>whnf
 rw[List.take_length]
 exact Ends.own rfl (rowsUt_free _) rfl rfl
end
section
open Go.Proofs.Tryz (prog)
theorem cellsOut_cold (s:SelfL) (pe:Peer) (pol:Policy) (m:List (Prefix × Attrs)):∀v∈cellsOut s pe pol m,Cold v:=by
 intro v hv
 simp only[cellsOut,List.mem_cons,List.not_mem_nil,or_false]at hv
 rcases hv with rfl|rfl|rfl|rfl|rfl|rfl|rfl|rfl|rfl|rfl<;>first|exact .int|exact .bool|exact encRus_cold _|exact Cold.imap (esA_cold _)
abbrev rowsRt (l:List Route):List (List V):=l.map (cellsRt false)
def encRts (l:List Route):V:=.sl false 14 (rowsRt l)
theorem rowsRt_free (l:List Route):∀x∈rowsRt l,∀v∈x,Free v:=by
 intro x hx v hv
 obtain⟨r,_,rfl⟩:=List.mem_map.1 hx
 exact cellsRt_free false r v hv
theorem encRts_free (l:List Route):Free (encRts l):=.sl (rowsRt_free l)
instance {l}:FreeI (encRts l):=⟨⟨encRts_free l⟩⟩
theorem idxRt {l:List Route} {i:Nat} (h:i < l.length):(rowsRt l)[(i:Int).toNat]? = some (cellsRt false l[i]):=by simp[h]
def encUt (fr:Bool) (l:List Upd):V:=.sl fr 10 (l.map (cellsU fr))
theorem encUt_free (fr:Bool) (l:List Upd):Free (encUt fr l):=.sl fun x hx v hv=>by
 obtain⟨u,_,rfl⟩:=List.mem_map.1 hx
 exact cellsU_free fr u v hv
theorem encUt_fresh (l:List Upd):Fresh (encUt true l):=.sl fun x hx v hv=>(rowsUt_ff l x hx v hv).2
instance {fr l}:FreeI (encUt fr l):=⟨⟨encUt_free fr l⟩⟩
def updP (m n:List (Prefix × Attrs)):List Upd:=goneU (goU (goKs (sortPs (keysE m)) n))++ newU (comU (comKs (sortPs (keysE n)) m n))
theorem updP_go (m n:List (Prefix × Attrs)):(goU (goKs (sortPs (keysE m)) n)).length≤m.length:=by
 have h1:=(goU_I (goKs (sortPs (keysE m)) n)).len
 have h2:(goKs (sortPs (keysE m)) n).length≤(sortPs (keysE m)).length:=List.length_filter_le _ _
 rw[sortPs_len,keysE_len]at h2
 omega
theorem comKs_right {K:List Prefix} {m n:List (Prefix × Attrs)} (hr:∀e∈n,rightA e.2=true):∀e∈comKs K m n,rightA e.2=true:=by
 intro e he
 obtain⟨q,_,hq⟩:=List.mem_filterMap.1 he
 simp only[comOne,Option.bind_eq_some_iff]at hq
 obtain⟨a,ha,hq⟩:=hq
 split at hq
 ·cases hq
 ·cases hq;exact hr _ (getE_mem ha)
theorem updP_come (m:List (Prefix × Attrs)) {n:List (Prefix × Attrs)} (hr:∀e∈n,rightA e.2=true):(comU (comKs (sortPs (keysE n)) m n)).length≤n.length:=by
 have h1:=(comU_I (comKs_right (K:=sortPs (keysE n)) (m:=m) hr)).len
 have h2:(comKs (sortPs (keysE n)) m n).length≤(sortPs (keysE n)).length:=List.length_filterMap_le _ _
 rw[sortPs_len,keysE_len]at h2
 omega
theorem pfxs_succ {l:List Route} {i:Nat} (h:i < l.length):pfxs (l.take (i + 1))=pfxs (l.take i)++ [l[i].pfx]:=by
 unfold pfxs
 rw[List.take_succ_eq_append_getElem h,List.map_append]
 rfl
theorem esP_none {ds:List Prefix} {p:Prefix} (h:p ∉ ds):MPos (esP ds) (encP p) none:=by
 intro kv hkv e
 obtain⟨x,hx,rfl⟩:=List.mem_map.1 hkv
 exact h (encP_inj e▸hx)
theorem esP_val_none {ds:List Prefix} {p:Prefix} (h:p ∉ ds):MVal (esP ds) (encP p) none:=esP_none h
theorem esP_val_some {ds:List Prefix} {p:Prefix} (h:p∈ds):MVal (esP ds) (encP p) (some (.bool true)):=by
 obtain⟨i,hi⟩:=List.getElem?_of_mem h
 exact⟨i,by simp[esP,hi]⟩
theorem esP_snoc (ds:List Prefix) (p:Prefix):mput (esP ds) (encP p) (.bool true) none=esP (ds ++ [p]):=by simp[mput,esP]
theorem LeB.esPut {h:Heap} {nx nx':Nat} {ρ:Nat→Nat} {Z:List Nat} {ds:List Prefix} {p:Prefix}:LeB h nx ρ nx' Z (.map (mput (esP ds) (encP p) (.bool true) none)) (.map (esP (ds ++ [p]))):=
 LeB.map (esP_snoc ds p) (by rw[esP_snoc];exact esP_free _)
attribute [local irreducible] CallV RoundV aggK VC VLo CallB
theorem tell_nil (l:List Route):PCon prog 19 [.nilp,encRts l] (.tup [.snil,.int .i64 1]):=by
 refine callV_of (fn:=Go.Proofs.Tryz.f19) (body:=_) tab_ok mixed rfl rfl (by decide) (by simp[Go.Proofs.Tryz.f19]) ?_
 conv=>whnf
 refine callV_pure onone_nil ⟨.fr rfl,trivial⟩ ?_
 conv=>whnf
 exact(Ends.pA)
theorem tell_bad (s:SelfL) (pe:Peer) (pol:Policy) (m:List (Prefix × Attrs)) (l:List Route) (hsm:∀r∈l,smallA r.attrs) (h:okT l=false) :
  OutC 19 [.ptr 0 0,encRts l] (cellsOut s pe pol m) (cellsOut s pe pol m) (·=.tup [.snil,.int .i64 2]):=by
 obtain⟨j,hj,hr,hnd,hbad⟩:=okT_bad h
 unfold OutC
 refine callV_of (fn:=Go.Proofs.Tryz.f19) (body:=_) tab_ok mixed rfl rfl (by decide) (by simp[Go.Proofs.Tryz.f19]) ?_
 conv=>whnf
 refine callV_out (onone_ok s pe pol m) rfl (cellsOut_free _ _ _ _) (cellsOut_free _ _ _ _) ⟨.ptr rfl (by omega),trivial⟩ ?_
 rintro v rfl
 refine⟨.bool,?_⟩
 show _
 conv=>whnf
 intro hgl
 have hgl:l.length≤maxLen:=by simpa[gd]using hgl
 conv=>whnf
 refine vcg_loop tab_ok mixed (fun i:{i:Nat // i≤j}=>⟨[(0,.ptr 0 0),(6,.mapp 1),(7,.mapp 2),(17,encRts l),(18,cI l.length),(19,cI i.1)],[(0,varOut s pe pol m),(1,some (.map (esP (pfxs (l.take i.1))))),(2,some (.map (esA (nowL s pe pol (l.take i.1)))))],3⟩) (fun i=>l.length - i.1) ⟨0,by omega⟩ (Wk.i (by repeat' (first|exact LHa|exact LeL.freeV (cellsOut_free s pe pol m)|exact .mapp rfl (by omega)|exact LeB.map rfl (by simp)|exact .int_of (by simp)|exact .A|exact LeL.fr rfl|exact LHb|refine Or.inl ⟨by simp,_,rfl,?_⟩|exact Or.inr ⟨by simp,_,_,_,_,rfl⟩|refine⟨rfl,rfl,rfl,rfl,rfl,rfl,?_⟩|refine⟨?_,?_⟩)) (by omega)) (fun i=>?_)
 obtain⟨i,hi⟩:=i
 have hc:i < l.length:=by omega
 conv=>whnf
 split
 case' h_2 hh=>exfalso;simp at hh;omega
 conv=>whnf
 refine ixK (idxRt hc) ?_
 conv=>whnf
 refine callV_pure (oright_ok false l[i]) ⟨.fr rfl,trivial⟩ ?_
 rcases Nat.lt_or_ge i j with hij|hij
 ·have hri:(prefOk l[i].pfx && rightA l[i].attrs)=true:=hr _ (by rw[List.mem_take_iff_getElem];exact⟨i,by omega,rfl⟩)
  have hni:l[i].pfx ∉ pfxs (l.take i):=by
   intro hm
   have e:pfxs (l.take j)=pfxs (l.take i)++ l[i].pfx :: pfxs ((l.take j).drop (i + 1)):=by
    have h1:l.take j=l.take i ++ l[i] :: (l.take j).drop (i + 1):=by
     have h2:(l.take j).take i=l.take i:=by rw[List.take_take,Nat.min_eq_left (by omega)]
     have h3:i < (l.take j).length:=by rw[List.length_take];omega
     have h4:=(List.take_append_drop i (l.take j)).symm
     rw[h2,List.drop_eq_getElem_cons h3]at h4
     simpa using h4
    unfold pfxs
    conv=>lhs;rw[h1]
    simp
   rw[e,List.nodup_append]at hnd
   exact hnd.2.2 _ hm _ (by simp) rfl
  have hnp:=(nowL_keys (s:=s) (pe:=pe) (pol:=pol) (l:=l.take i) (p:=l[i].pfx))
  have hns:=nowL_succ (s:=s) (pe:=pe) (pol:=pol) hc
  have hsay:=says_ok s pe pol m l[i] (hsm _ (List.getElem_mem hc))
  rw[hri]
  conv=>whnf
  refine⟨esP_keys _,keyP _,none,esP_val_none hni,?_⟩
  conv=>whnf
  refine⟨esP_keys _,keyP _,none,esP_none hni,?_⟩
  conv=>whnf
  refine callV_out hsay rfl (cellsOut_free _ _ _ _) (cellsOut_free _ _ _ _) ⟨.ptr rfl (by omega),.fr rfl,trivial⟩ ?_
  rintro v rfl
  refine⟨.tup (by simp;exact⟨encA_free _ _,.bool⟩),?_⟩
  show _
  cases ho:sayO s pe pol l[i]with
  | none=>
   rw[ho,List.append_nil]at hns
   conv=>whnf
   exact⟨⟨i + 1,by omega⟩,(Wk.i (by repeat' (first|exact LHa|exact LeL.freeV (cellsOut_free s pe pol m)|exact .mapp rfl (by omega)|exact(by simp only[pfxs_succ hc];exact LeB.esPut)|exact LeB.map (by simp only[hns]) (esA_free _)|exact .int_of (wrap64_succ hc hgl)|exact .A|exact LeL.fr rfl|exact LHb|refine Or.inl ⟨by simp,_,rfl,?_⟩|exact Or.inr ⟨by simp,_,_,_,_,rfl⟩|refine⟨rfl,rfl,rfl,rfl,rfl,rfl,?_⟩|refine⟨?_,?_⟩)) (by omega)),by simp only;omega⟩
  | some a=>
   rw[ho]at hns
   conv=>whnf
   refine⟨esA_keys _,keyP _,none,put_new (fun h=>hni (hnp h)),?_⟩
   conv=>whnf
   exact⟨⟨i + 1,by omega⟩,(Wk.i (by repeat' (first|exact LHa|exact LeL.freeV (cellsOut_free s pe pol m)|exact .mapp rfl (by omega)|exact(by simp only[pfxs_succ hc];exact LeB.esPut)|exact(by simp only[hns];exact LeB.mapPut)|exact .int_of (wrap64_succ hc hgl)|exact .A|exact LeL.fr rfl|exact LHb|refine Or.inl ⟨by simp,_,rfl,?_⟩|exact Or.inr ⟨by simp,_,_,_,_,rfl⟩|refine⟨rfl,rfl,rfl,rfl,rfl,rfl,?_⟩|refine⟨?_,?_⟩)) (by omega)),by simp only;omega⟩
 ·obtain rfl:i=j:=by omega
  cases hri:prefOk l[i].pfx && rightA l[i].attrs with
  | false=>
   conv=>whnf
   exact⟨.tup [.snil,.int .i64 2],[(0,varOut s pe pol m)],1,(Ends.all id [] (by repeat' (first|exact LHa|exact LeL.freeV (cellsOut_free s pe pol m)|exact .tupL ⟨.fr rfl,.fr rfl,trivial⟩|exact .A|exact LeL.fr rfl|exact LHb|refine Or.inl ⟨by simp,_,rfl,?_⟩|exact Or.inr ⟨by simp,_,_,_,_,rfl⟩|refine⟨rfl,rfl,rfl,rfl,rfl,rfl,?_⟩|refine⟨?_,?_⟩)) (fun _ _ _ _ h=>h) (fun _ _=>rfl) (by omega) (by simp)),rfl,rfl,rfl⟩
  | true=>
   have hm:l[i].pfx∈pfxs (l.take i):=by
    rcases hbad with hb|hb
    ·rw[rightR,hri]at hb;cases hb
    ·exact hb
   conv=>whnf
   refine⟨esP_keys _,keyP _,some (.bool true),esP_val_some hm,?_⟩
   conv=>whnf
   exact⟨.tup [.snil,.int .i64 2],[(0,varOut s pe pol m)],1,(Ends.all id [] (by repeat' (first|exact LHa|exact LeL.freeV (cellsOut_free s pe pol m)|exact .tupL ⟨.fr rfl,.fr rfl,trivial⟩|exact .A|exact LeL.fr rfl|exact LHb|refine Or.inl ⟨by simp,_,rfl,?_⟩|exact Or.inr ⟨by simp,_,_,_,_,rfl⟩|refine⟨rfl,rfl,rfl,rfl,rfl,rfl,?_⟩|refine⟨?_,?_⟩)) (fun _ _ _ _ h=>h) (fun _ _=>rfl) (by omega) (by simp)),rfl,rfl,rfl⟩
theorem tell_B (s:SelfL) (pe:Peer) (pol:Policy) (m:List (Prefix × Attrs)) (hm:m.length≤1000) (l:List Route) (hl:l.length≤1000) (hsm:∀r∈l,smallA r.attrs) (h:okT l=true) :
  CallB prog 19 [.ptr 0 0,encRts l] [(0,varOut s pe pol m)] 1 (fun v h nx=>v=.tup [encUt true (updP m (nowL s pe pol l)),.int .i64 0]∧h=[(0,varOut s pe pol (nowL s pe pol l))]∧nx=1):=by
 obtain⟨hr,hnd⟩:=okT_out h
 have hF:FW Fence.wide:=.inl rfl
 refine CallB.tidy (R:=fun v h nx=>v=.tup [encUt true (updP m (nowL s pe pol l)),.int .i64 0]∧h=[(0,varOut s pe pol (nowL s pe pol l)),(0,varOut s pe pol m)]∧nx=1) ?_ (fun v h' nx' ⟨h1,h2,h3⟩=>⟨[(0,varOut s pe pol (nowL s pe pol l))],fun b=>by subst h2;rw[hget_cons,hget_cons,hget_cons];split<;>rfl,h1,rfl,h3⟩)
 refine callB_of_lo (fn:=Go.Proofs.Tryz.f19) (body:=_) tab_ok rfl rfl (by simp[Go.Proofs.Tryz.f19]) (Nat.le_of_ble_eq_true rfl) ?_
 refine vlo_seq (vcg_ok (rd:=false) tab_ok mixed hF (fun _=>rfl) ?_)
 conv=>whnf
 refine vlo_seq (vcg_ok (rd:=false) tab_ok mixed hF (fun _=>rfl) ?_)
 conv=>whnf
 refine callV_out (onone_ok s pe pol m) rfl (cellsOut_free _ _ _ _) (cellsOut_free _ _ _ _) ⟨.ptr rfl (by omega),trivial⟩ ?_
 rintro v rfl
 refine⟨.bool,?_⟩
 show _
 conv=>whnf
 refine vlo_seq (vcg_ok (rd:=false) tab_ok mixed hF (fun _=>rfl) ?_)
 conv=>whnf
 refine vlo_seq (vcg_ok (rd:=false) tab_ok mixed hF (fun _=>rfl) ?_)
 conv=>whnf
 intro hgl
 have hgl:l.length≤maxLen:=by simpa[gd]using hgl
 conv=>whnf
 refine vcg_loop tab_ok mixed (fun i:{i:Nat // i≤l.length}=>⟨[(0,.ptr 0 0),(6,.mapp 1),(7,.mapp 2),(17,encRts l),(18,cI l.length),(19,cI i.1)],[(0,varOut s pe pol m),(1,some (.map (esP (pfxs (l.take i.1))))),(2,some (.map (esA (nowL s pe pol (l.take i.1)))))],3⟩) (fun i=>l.length - i.1) ⟨0,by omega⟩ (Wk.i (by repeat' (first|exact LHa|exact LeL.freeV (cellsOut_free s pe pol m)|exact .mapp rfl (by omega)|exact LeB.map rfl (by simp)|exact .int_of (by simp)|exact .A|exact LeL.fr rfl|exact LHb|refine Or.inl ⟨by simp,_,rfl,?_⟩|exact Or.inr ⟨by simp,_,_,_,_,rfl⟩|refine⟨rfl,rfl,rfl,rfl,rfl,rfl,?_⟩|refine⟨?_,?_⟩)) (by omega)) (fun i=>?_)
 obtain⟨i,hi⟩:=i
 conv=>whnf
 split
 ·rename_i hc
  have hc:i < l.length:=by simpa using hc
  conv=>whnf
  refine ixK (idxRt hc) ?_
  conv=>whnf
  refine callV_pure (oright_ok false l[i]) ⟨.fr rfl,trivial⟩ ?_
  have hri:(prefOk l[i].pfx && rightA l[i].attrs)=true:=hr _ (List.getElem_mem hc)
  have hni:l[i].pfx ∉ pfxs (l.take i):=by
   intro hm
   have h4:=(List.take_append_drop i l).symm
   rw[List.drop_eq_getElem_cons hc]at h4
   have e:=congrArg pfxs h4
   rw[show pfxs (l.take i ++ l[i] :: l.drop (i + 1))=pfxs (l.take i)++ l[i].pfx :: pfxs (l.drop (i + 1))by unfold pfxs;rw[List.map_append];rfl]at e
   rw[e,List.nodup_append]at hnd
   exact hnd.2.2 _ hm _ (by simp) rfl
  have hnp:=(nowL_keys (s:=s) (pe:=pe) (pol:=pol) (l:=l.take i) (p:=l[i].pfx))
  have hns:=nowL_succ (s:=s) (pe:=pe) (pol:=pol) hc
  have hsay:=says_ok s pe pol m l[i] (hsm _ (List.getElem_mem hc))
  rw[hri]
  conv=>whnf
  refine⟨esP_keys _,keyP _,none,esP_val_none hni,?_⟩
  conv=>whnf
  refine⟨esP_keys _,keyP _,none,esP_none hni,?_⟩
  conv=>whnf
  refine callV_out hsay rfl (cellsOut_free _ _ _ _) (cellsOut_free _ _ _ _) ⟨.ptr rfl (by omega),.fr rfl,trivial⟩ ?_
  rintro v rfl
  refine⟨.tup (by simp;exact⟨encA_free _ _,.bool⟩),?_⟩
  show _
  cases ho:sayO s pe pol l[i]with
  | none=>
   rw[ho,List.append_nil]at hns
   conv=>whnf
   exact⟨⟨i + 1,by omega⟩,(Wk.i (by repeat' (first|exact LHa|exact LeL.freeV (cellsOut_free s pe pol m)|exact .mapp rfl (by omega)|exact(by simp only[pfxs_succ hc];exact LeB.esPut)|exact LeB.map (by simp only[hns]) (esA_free _)|exact .int_of (wrap64_succ hc hgl)|exact .A|exact LeL.fr rfl|exact LHb|refine Or.inl ⟨by simp,_,rfl,?_⟩|exact Or.inr ⟨by simp,_,_,_,_,rfl⟩|refine⟨rfl,rfl,rfl,rfl,rfl,rfl,?_⟩|refine⟨?_,?_⟩)) (by omega)),by simp only;omega⟩
  | some a=>
   rw[ho]at hns
   conv=>whnf
   refine⟨esA_keys _,keyP _,none,put_new (fun h=>hni (hnp h)),?_⟩
   conv=>whnf
   exact⟨⟨i + 1,by omega⟩,(Wk.i (by repeat' (first|exact LHa|exact LeL.freeV (cellsOut_free s pe pol m)|exact .mapp rfl (by omega)|exact(by simp only[pfxs_succ hc];exact LeB.esPut)|exact(by simp only[hns];exact LeB.mapPut)|exact .int_of (wrap64_succ hc hgl)|exact .A|exact LeL.fr rfl|exact LHb|refine Or.inl ⟨by simp,_,rfl,?_⟩|exact Or.inr ⟨by simp,_,_,_,_,rfl⟩|refine⟨rfl,rfl,rfl,rfl,rfl,rfl,?_⟩|refine⟨?_,?_⟩)) (by omega)),by simp only;omega⟩
 rename_i hc
 have hc:i=l.length:=by simp at hc;omega
 subst hc
 conv=>whnf
 rw[List.take_length]
 have hnr:∀e∈nowL s pe pol l,rightA e.2=true:=fun e he=>check_right (nowL_right e he)
 have hnl:(nowL s pe pol l).length≤1000:=Nat.le_trans nowL_len hl
 generalize nowL s pe pol l=n at hnr hnl ⊢
 refine vlo_weak (Wk.all id [2] (by repeat' (first|exact LHa|exact LeL.freeV (cellsOut_free s pe pol m)|exact LeV.freezeM (by simp) rfl rfl (esA_free _)|exact .A|exact LeL.fr rfl|exact LHb|refine Or.inl ⟨by simp,_,rfl,?_⟩|exact Or.inr ⟨by simp,_,_,_,_,rfl⟩|refine⟨rfl,rfl,rfl,rfl,rfl,rfl,?_⟩|refine⟨?_,?_⟩)) (fun _ _ _ _ h=>h) (fun _ _=>rfl) (by omega) (by intro z hz;simp only[List.mem_cons,List.not_mem_nil,or_false]at hz;rcases hz with rfl<;>exact ne_none_of rfl)) (s':=⟨[(0,.ptr 0 0),(7,.imap false (esA n))],[(0,varOut s pe pol m)],1⟩) ?_
 have hgo:=goes_ok m n hm hnl
 have hco:=PCon.of_own (comes_ok m n hm hnl hnr) (by simp) (rowsUt_free _)
 rw[List.take_of_length_le (by simp)]at hco
 refine vlo_put tab_ok mixed hF (b0:=0) (x:=0) (y:=7) (z:=12) (d0:=60) (d1:=61) (d2:=62) (d3:=63) (off:=9) (nx2:=1) (vy:=.imap false (esA n)) (vz:=encUt true (updP m n)) rfl rfl ⟨imapA_free n,Cold.imap (esA_cold n)⟩ rfl rfl (fun v hv=>⟨cellsOut_free s pe pol m v hv,cellsOut_cold s pe pol m v hv⟩) (by simp[cellsOut]) ⟨⟨_,_,_,_,_,97,3,95,95,_,rfl,⟨rfl,rfl,rfl,rfl,rfl⟩,⟨rfl,rfl,rfl,rfl,rfl⟩,⟨rfl,rfl,rfl,rfl,rfl⟩,rfl,rfl,by decide,by simp[tab,tabOf,nth],by decide,by simp[tab,tabOf,nth],rfl⟩,by decide⟩ (by decide) ⟨encUt_free _ _,encUt_fresh _⟩ (fun u=>?_) ?_
 ·conv=>whnf
  refine⟨.osl 0 10 0 (goneU (goU (goKs (sortPs (keysE m)) n))).length,[],.arr true false 86 10 (rowsUt (goneU (goU (goKs (sortPs (keysE m)) n)))),fun h nx _=>newV_own [] hgo ⟨.fr rfl,.fr rfl,trivial⟩ (by intro v hv;simp at hv;rcases hv with rfl|rfl<;>exact Cold.imap (esA_cold _)) (by simp) (rowsUt_ff _),by simp,?_⟩
  conv=>whnf
  refine⟨_,[],fun h nx _=>pureV_pure hco ⟨.fr rfl,.fr rfl,trivial⟩,by simp,?_⟩
  conv=>whnf
  refine⟨⟨rfl,rfl,rfl,rfl,by decide⟩,by simp,⟨by simp[tab,tabOf,nth,gone_len,new_len];have:=updP_go m n;have:=updP_come m hnr;omega,by simp[gone_len,new_len];have:=updP_go m n;have:=updP_come m hnr;omega⟩,?_⟩
  conv=>whnf
  exact⟨by kernel_rfl,⟨_,rfl⟩,⟨_,rfl⟩,Wk.of id [1] ⟨.freezeE (by simp) rfl (by simp) (by simp[updP,List.take_of_length_le]) (rowsUt_free _),trivial⟩ (LeH.nil (by omega) (fun _ _=>rfl) (one_none rfl))⟩
 ·conv=>whnf
  exact⟨.tup [encUt true (updP m n),.int .i64 0],[],0,Ends.all id [] ⟨.tupL ⟨.fr rfl,.fr rfl,trivial⟩,trivial⟩ (fun _ _ _ _ h=>h) (fun _ _=>rfl) (by omega) (by simp),.tup (by simp;exact⟨encUt_free _ _,.int⟩),.tup (by simp;exact⟨encUt_fresh _,.int⟩),rfl,rfl,rfl⟩
end
section
open Go.Proofs.Tryz (prog)
attribute [local irreducible] CallV RoundV aggK
theorem says_nil (r:Route):PCon prog 14 [.nilp,encRt false r] (.tup [encA true noA,.bool false]):=by
 refine callV_of (fn:=Go.Proofs.Tryz.f14) (body:=_) tab_ok mixed rfl rfl (by decide) (by simp[Go.Proofs.Tryz.f14]) ?_
 conv=>whnf
 refine callV_pure onone_nil ⟨.fr rfl,trivial⟩ ?_
 conv=>whnf
 exact(Ends.pure [] (by repeat' (first|exact True.intro|exact .tupL ⟨.noA,.fr rfl,trivial⟩|exact .A|exact LeL.fr rfl|refine .tupL ?_|refine .aggL ?_|refine⟨?_,?_⟩)) (by simp))
theorem policyO_nil (p:Policy):PCon prog 21 [.nilp,encPo false p] (.int .i64 1):=by
 refine callV_of (fn:=Go.Proofs.Tryz.f21) (body:=_) tab_ok mixed rfl rfl (by decide) (by simp[Go.Proofs.Tryz.f21]) ?_
 conv=>whnf
 refine callV_pure onone_nil ⟨.fr rfl,trivial⟩ ?_
 conv=>whnf
 exact(Ends.pA)
theorem clearO_nil:PCon prog 22 [.nilp] (.int .i64 1):=by
 refine callV_of (fn:=Go.Proofs.Tryz.f22) (body:=_) tab_ok mixed rfl rfl (by decide) (by simp[Go.Proofs.Tryz.f22]) ?_
 conv=>whnf
 refine callV_pure onone_nil ⟨.fr rfl,trivial⟩ ?_
 conv=>whnf
 exact(Ends.pA)
theorem lenO_nil:PCon prog 23 [.nilp] (.int .i64 0):=by
 refine callV_of (fn:=Go.Proofs.Tryz.f23) (body:=_) tab_ok mixed rfl rfl (by decide) (by simp[Go.Proofs.Tryz.f23]) ?_
 conv=>whnf
 refine callV_pure onone_nil ⟨.fr rfl,trivial⟩ ?_
 conv=>whnf
 exact(Ends.pA)
theorem lenO_ok (s:SelfL) (pe:Peer) (pol:Policy) (m:List (Prefix × Attrs)):OutC 23 [.ptr 0 0] (cellsOut s pe pol m) (cellsOut s pe pol m) (·=.int .i64 m.length):=by
 unfold OutC
 refine callV_of (fn:=Go.Proofs.Tryz.f23) (body:=_) tab_ok mixed rfl rfl (by decide) (by simp[Go.Proofs.Tryz.f23]) ?_
 conv=>whnf
 refine callV_out (onone_ok s pe pol m) rfl (cellsOut_free _ _ _ _) (cellsOut_free _ _ _ _) ⟨.ptr rfl (by omega),trivial⟩ ?_
 rintro v rfl
 refine⟨.bool,?_⟩
 show _
 conv=>whnf
 exact⟨.int .i64 m.length,[(0,varOut s pe pol m)],1,(Ends.all id [] (by repeat' (first|exact LHa|exact LeL.freeV (cellsOut_free s pe pol m)|exact .int_of (by simp[esA])|exact .A|exact LeL.fr rfl|exact LHb|refine Or.inl ⟨by simp,_,rfl,?_⟩|exact Or.inr ⟨by simp,_,_,_,_,rfl⟩|refine⟨rfl,rfl,rfl,rfl,rfl,rfl,?_⟩|refine⟨?_,?_⟩)) (fun _ _ _ _ h=>h) (fun _ _=>rfl) (by omega) (by simp)),rfl,rfl,rfl⟩
theorem toldO_ok (s:SelfL) (pe:Peer) (pol:Policy) (m:List (Prefix × Attrs)):OutC 20 [.ptr 0 0] (cellsOut s pe pol m) (cellsOut s pe pol m) (·=.fn (.func 49) [] [.iptr true [.imap false (esA m)]]):=by
 unfold OutC
 refine callV_of (fn:=Go.Proofs.Tryz.f20) (body:=_) tab_ok mixed rfl rfl (by decide) (by simp[Go.Proofs.Tryz.f20]) ?_
 conv=>whnf
 refine callV_out (onone_ok s pe pol m) rfl (cellsOut_free _ _ _ _) (cellsOut_free _ _ _ _) ⟨.ptr rfl (by omega),trivial⟩ ?_
 rintro v rfl
 refine⟨.bool,?_⟩
 show _
 conv=>whnf
 refine callV_pure (cloneO_pure false false (esA m)) ⟨.fr rfl,trivial⟩ ?_
 conv=>whnf
 exact⟨.fn (.func 49) [] [.iptr true [.imap false (esA m)]],[(0,varOut s pe pol m)],1,(Ends.all id [1] (by repeat' (first|exact LHa|exact LeL.freeV (cellsOut_free s pe pol m)|exact .fnL trivial ⟨LeV.freezeP (by simp) rfl (by intro v hv;simp at hv;subst hv;exact imapA_free m),trivial⟩|exact .A|exact LeL.fr rfl|exact LHb|refine Or.inl ⟨by simp,_,rfl,?_⟩|exact Or.inr ⟨by simp,_,_,_,_,rfl⟩|refine⟨rfl,rfl,rfl,rfl,rfl,rfl,?_⟩|refine⟨?_,?_⟩)) (fun _ _ _ _ h=>h) (fun _ _=>rfl) (by omega) (by intro z hz;simp only[List.mem_cons,List.not_mem_nil,or_false]at hz;rcases hz with rfl<;>exact ne_none_of rfl)),rfl,rfl,rfl⟩
theorem toldO_nil:PCon prog 20 [.nilp] (.fn (.func 49) [] [.iptr true [.nilm]]):=by
 refine callV_of (fn:=Go.Proofs.Tryz.f20) (body:=_) tab_ok mixed rfl rfl (by decide) (by simp[Go.Proofs.Tryz.f20]) ?_
 conv=>whnf
 refine callV_pure onone_nil ⟨.fr rfl,trivial⟩ ?_
 conv=>whnf
 exact(Ends.pure [0] (by repeat' (first|exact True.intro|exact .fnL trivial ⟨LeV.freezeP (by simp) rfl (by intro v hv;simp at hv;subst hv;exact .nilm),trivial⟩|exact .A|exact LeL.fr rfl|refine .tupL ?_|refine .aggL ?_|refine⟨?_,?_⟩)) (by intro z hz;simp only[List.mem_cons,List.not_mem_nil,or_false]at hz;rcases hz with rfl<;>exact ne_none_of rfl))
theorem copyO_nil:PCon prog 24 [.nilp] .nilp:=by
 refine callV_of (fn:=Go.Proofs.Tryz.f24) (body:=_) tab_ok mixed rfl rfl (by decide) (by simp[Go.Proofs.Tryz.f24]) ?_
 conv=>whnf
 refine callV_pure onone_nil ⟨.fr rfl,trivial⟩ ?_
 conv=>whnf
 exact(Ends.pA)
theorem sameO_nil:PCon prog 25 [.nilp,.nilp] (.bool true):=by
 refine callV_of (fn:=Go.Proofs.Tryz.f25) (body:=_) tab_ok mixed rfl rfl (by decide) (by simp[Go.Proofs.Tryz.f25]) ?_
 conv=>whnf
 refine callV_pure onone_nil ⟨.fr rfl,trivial⟩ ?_
 conv=>whnf
 refine callV_pure onone_nil ⟨.fr rfl,trivial⟩ ?_
 conv=>whnf
 refine callV_pure onone_nil ⟨.fr rfl,trivial⟩ ?_
 conv=>whnf
 exact(Ends.pA)
theorem sameO_l (s:SelfL) (pe:Peer) (pol:Policy) (m:List (Prefix × Attrs)):OutC 25 [.ptr 0 0,.nilp] (cellsOut s pe pol m) (cellsOut s pe pol m) (·=.bool false):=by
 unfold OutC
 refine callV_of (fn:=Go.Proofs.Tryz.f25) (body:=_) tab_ok mixed rfl rfl (by decide) (by simp[Go.Proofs.Tryz.f25]) ?_
 conv=>whnf
 refine callV_out (onone_ok s pe pol m) rfl (cellsOut_free _ _ _ _) (cellsOut_free _ _ _ _) ⟨.ptr rfl (by omega),trivial⟩ ?_
 rintro v rfl
 refine⟨.bool,?_⟩
 show _
 conv=>whnf
 refine callV_pure onone_nil ⟨.fr rfl,trivial⟩ ?_
 conv=>whnf
 refine callV_out (onone_ok s pe pol m) rfl (cellsOut_free _ _ _ _) (cellsOut_free _ _ _ _) ⟨.ptr rfl (by omega),trivial⟩ ?_
 rintro v rfl
 refine⟨.bool,?_⟩
 show _
 conv=>whnf
 exact⟨_,_,_,(Ends.all id [] (by repeat' (first|exact LHa|exact LeL.freeV (cellsOut_free s pe pol m)|exact .A|exact LeL.fr rfl|exact LHb|refine Or.inl ⟨by simp,_,rfl,?_⟩|exact Or.inr ⟨by simp,_,_,_,_,rfl⟩|refine⟨rfl,rfl,rfl,rfl,rfl,rfl,?_⟩|refine⟨?_,?_⟩)) (fun _ _ _ _ h=>h) (fun _ _=>rfl) (by omega) (by simp)),rfl,rfl,rfl⟩
theorem sameO_r (s:SelfL) (pe:Peer) (pol:Policy) (m:List (Prefix × Attrs)):OutC 25 [.nilp,.ptr 0 0] (cellsOut s pe pol m) (cellsOut s pe pol m) (·=.bool false):=by
 unfold OutC
 refine callV_of (fn:=Go.Proofs.Tryz.f25) (body:=_) tab_ok mixed rfl rfl (by decide) (by simp[Go.Proofs.Tryz.f25]) ?_
 conv=>whnf
 refine callV_pure onone_nil ⟨.fr rfl,trivial⟩ ?_
 conv=>whnf
 refine callV_pure onone_nil ⟨.fr rfl,trivial⟩ ?_
 conv=>whnf
 refine callV_out (onone_ok s pe pol m) rfl (cellsOut_free _ _ _ _) (cellsOut_free _ _ _ _) ⟨.ptr rfl (by omega),trivial⟩ ?_
 rintro v rfl
 refine⟨.bool,?_⟩
 show _
 conv=>whnf
 exact⟨_,_,_,(Ends.all id [] (by repeat' (first|exact LHa|exact LeL.freeV (cellsOut_free s pe pol m)|exact .A|exact LeL.fr rfl|exact LHb|refine Or.inl ⟨by simp,_,rfl,?_⟩|exact Or.inr ⟨by simp,_,_,_,_,rfl⟩|refine⟨rfl,rfl,rfl,rfl,rfl,rfl,?_⟩|refine⟨?_,?_⟩)) (fun _ _ _ _ h=>h) (fun _ _=>rfl) (by omega) (by simp)),rfl,rfl,rfl⟩
end
section
open Go.Proofs.Tryz (prog)
attribute [local irreducible] CallV RoundV aggK VC
structure OutS where
 self:SelfL
 peer:Peer
 pol:Policy
 told:List (Prefix × Attrs)
def cellsOS (o:OutS):List V:=[cW o.self.sys,cW o.self.id,cW o.self.addr,cW o.peer.sys,cW o.peer.id,cW o.peer.addr,.bool o.peer.inner,encRus false o.pol.rules,.bool o.pol.els,encEns false o.told]
def encOS (o:OutS):V:=.agg (cellsOS o)
theorem cellsOS_free (o:OutS):∀v∈cellsOS o,Free v:=by
 intro v hv
 simp only[cellsOS,List.mem_cons,List.not_mem_nil,or_false]at hv
 rcases hv with rfl|rfl|rfl|rfl|rfl|rfl|rfl|rfl|rfl|rfl<;>first|exact .int|exact .bool|exact .sl (rowsRu_free _)|exact encEns_free _ _
theorem encOS_free (o:OutS):Free (encOS o):=.agg (cellsOS_free o)
instance {o}:FreeI (encOS o):=⟨⟨encOS_free o⟩⟩
instance {o}:FreeLI (cellsOS o):=⟨⟨cellsOS_free o⟩⟩
def noOS:OutS:=⟨⟨0,0,0⟩,⟨0,0,0,false⟩,⟨[],false⟩,[]⟩
def newOS (s:SelfL) (pe:Peer) (pol:Policy):OutS:=if newO s pe pol then⟨s,pe,pol,[]⟩else noOS
def newOE (s:SelfL) (pe:Peer) (pol:Policy):Int:=if newO s pe pol then 0 else 2
theorem LeV.noOS {h:Heap} {nx nx':Nat} {ρ:Nat→Nat} {Z:List Nat}:LeV h nx ρ nx' Z (.agg [.int .u32 0,.int .u32 0,.int .u32 0,.int .u32 0,.int .u32 0,.int .u32 0,.bool false,.snil,.bool false,.snil]) (encOS noOS):=
 .aggL ⟨.fr rfl,.fr rfl,.fr rfl,.fr rfl,.fr rfl,.fr rfl,.fr rfl,.snil_sl,.fr rfl,.snil_sl,trivial⟩
theorem beqZ (x:UInt32):((x.toNat:Int) == 0)=decide (x=0):=beqW x 0
theorem refNew26_ok (s:SelfL) (pe:Peer) (pol:Policy):PCon prog 12 [encSf s,encPe pe,encPo false pol] (.tup [encOS (newOS s pe pol),.int .i64 (newOE s pe pol)]):=by
 have rp:=rightPeer_ok s.sys pe
 have rc:=rcheck23_ok false pol
 refine callV_of (fn:=Go.Proofs.Tryz.f12) (body:=_) tab_ok mixed rfl rfl (by decide) (by simp[Go.Proofs.Tryz.f12]) ?_
 conv=>whnf
 rw[beqZ]
 cases h1:decide (s.id=0)with
 | true=>
  have h1':=of_decide_eq_true h1
  rw[newOS,newOE,show newO s pe pol=false by simp[newO,h1'],if_neg (by decide),if_neg (by decide)]
  conv=>whnf
  exact Ends.pure [] (.tupL ⟨.noOS,.fr rfl,trivial⟩) (by simp)
 | false=>
 conv=>whnf
 rw[beqZ]
 cases h2:decide (s.addr=0)with
 | true=>
  have h2':=of_decide_eq_true h2
  rw[newOS,newOE,show newO s pe pol=false by simp[newO,h2'],if_neg (by decide),if_neg (by decide)]
  conv=>whnf
  exact Ends.pure [] (.tupL ⟨.noOS,.fr rfl,trivial⟩) (by simp)
 | false=>
 conv=>whnf
 refine callV_pure rp ⟨.fr rfl,.fr rfl,trivial⟩ ?_
 cases h3:peerB s.sys pe with
 | false=>
  rw[newOS,newOE,show newO s pe pol=false by simp[newO,h3],if_neg (by decide),if_neg (by decide)]
  conv=>whnf
  exact Ends.pure [] (.tupL ⟨.noOS,.fr rfl,trivial⟩) (by simp)
 | true=>
 conv=>whnf
 refine callV_pure rc ⟨.fr rfl,trivial⟩ ?_
 by_cases h4:checkP pol=0
 ·have h1':=of_decide_eq_false h1
  have h2':=of_decide_eq_false h2
  rw[newOS,newOE,show newO s pe pol=true by simp[newO,h1',h2',h3,h4],if_pos rfl,if_pos rfl,h4]
  conv=>whnf
  exact Ends.pure [] (.tupL ⟨.aggL ⟨.fr rfl,.fr rfl,.fr rfl,.fr rfl,.fr rfl,.fr rfl,.fr rfl,.fr rfl,.fr rfl,.snil_sl,trivial⟩,.fr rfl,trivial⟩) (by simp)
 ·conv=>whnf
  rw[show(checkP pol != 0)=true by simp[h4]]
  rw[newOS,newOE,show newO s pe pol=false by simp[newO,h4],if_neg (by decide),if_neg (by decide)]
  conv=>whnf
  exact Ends.pure [] (.tupL ⟨.noOS,.fr rfl,trivial⟩) (by simp)
def skipW (o:OutS) (r:Route):Bool:=(decide (r.peer.sys=o.peer.sys)&& decide (r.peer.id=o.peer.id)&& decide (r.peer.addr=o.peer.addr)) || (!ownR r && o.peer.inner && r.peer.inner)
theorem sayK6 (s:SelfL) (pe:Peer) (pol:Policy) (t:List (Prefix × Attrs)) (r:Route):sayK s pe pol r 6=if prefOk r.pfx && rightA r.attrs then(if skipW ⟨s,pe,pol,t⟩ r then none else
  if(byR pol s.sys r.pfx (sayM (ownR r) pe.inner r.attrs)).2 then(if pe.inner then some (byR pol s.sys r.pfx (sayM (ownR r) pe.inner r.attrs)).1 else if prepE (byR pol s.sys r.pfx (sayM (ownR r) pe.inner r.attrs)).1 s.sys 1=0 then some { prepA (byR pol s.sys r.pfx (sayM (ownR r) pe.inner r.attrs)).1 s.sys 1 with next:=s.addr } else none)else none)else none:=by
 simp only[sayK,stepS,skipW,Option.bind_some]
 cases hr:prefOk r.pfx && rightA r.attrs<;>simp only[Bool.false_eq_true,if_false,if_true,Option.bind_none,Option.bind_some]
 cases h1:decide (r.peer.sys=pe.sys)<;>cases h2:decide (r.peer.id=pe.id)<;>cases h3:decide (r.peer.addr=pe.addr)<;>cases h4:ownR r<;>cases h5:pe.inner<;>cases h6:r.peer.inner<;>simp
 all_goals (cases h7:(byR pol s.sys r.pfx _).2<;>simp)
abbrev hw26 (o:OutS) (r:Route) (c:List V):Heap:=[(0,some (.var true 47 (cellsOS o))),(1,some (.var true 37 (cellsRt false r))),(2,some (.var true 35 zeroC)),(3,some (.var true 35 c))]
theorem words26_ok (o:OutS) (r:Route):PCon prog 40 [encOS o,encRt false r] (optV false (sayK o.self o.peer o.pol r 6)):=by
 have hF:FW Fence.wide:=.inl rfl
 have r1:=rRight_ok r.pfx
 have r2:=right_ok false r.attrs
 refine callV_of_vc (fn:=Go.Proofs.Tryz.f40) (body:=_) tab_ok rfl rfl (by simp[Go.Proofs.Tryz.f40]) (Nat.le_of_ble_eq_true rfl) ?_
 refine vc_seq (vcg_ok (rd:=false) tab_ok mixed hF (fun _=>rfl) ?_)
 conv=>whnf
 refine vc_seq (vcg_ok (rd:=false) tab_ok mixed hF (fun _=>rfl) ?_)
 conv=>whnf
 refine callV_pure r1 ⟨.fr rfl,trivial⟩ ?_
 cases hp:prefOk r.pfx with
 | false=>
  conv=>whnf
  rw[show sayK o.self o.peer o.pol r 6=none by rw[sayK6 _ _ _ o.told,hp];simp]
  exact Ends.pure [] (.tupL ⟨.noA,.fr rfl,trivial⟩) (by simp)
 | true=>
 conv=>whnf
 refine callV_pure r2 ⟨.fr rfl,trivial⟩ ?_
 cases hq:rightA r.attrs with
 | false=>
  conv=>whnf
  rw[show sayK o.self o.peer o.pol r 6=none by rw[sayK6 _ _ _ o.told,hq];simp]
  exact Ends.pure [] (.tupL ⟨.noA,.fr rfl,trivial⟩) (by simp)
 | true=>
 have hr:(prefOk r.pfx && rightA r.attrs)=true:=by rw[hp,hq];rfl
 conv=>whnf
 refine vc_seq (vcg_ok (rd:=false) tab_ok mixed hF (fun _=>rfl) ?_)
 conv=>whnf
 refine eqlPe r.peer noPe ?_
 conv=>whnf
 refine vc_join tab_ok mixed hF (rd:=false) (fun _=>rfl) (fun _:{u:Unit // skipW o r=false}=>⟨[(2,.ptr 0 0),(3,.ptr 1 0),(4,.ptr 2 0),(6,.bool (ownR r))],[(0,some (.var true 47 (cellsOS o))),(1,some (.var true 37 (cellsRt false r))),(2,some (.var true 35 zeroC))],3⟩) ?_ fun q=>?_
 ·conv=>whnf
  rw[beqW]
  cases h1:decide (r.peer.sys=o.peer.sys)with
  | false=>
   conv=>whnf
   cases h4:decide (r.peer=noPe)with
   | true=>
    conv=>whnf
    exact⟨⟨(),by simp[skipW,ownR,h4,h1]⟩,(Wk.i (by repeat' (first|exact LHa|exact LeL.freeV (cellsOS_free o)|exact LeL.freeV (cellsRt_free false r)|exact .bool_of (by simp[ownR,h4])|exact .A|exact LeL.fr rfl|exact LHb|refine Or.inl ⟨by simp,_,rfl,?_⟩|exact Or.inr ⟨by simp,_,_,_,_,rfl⟩|refine⟨rfl,rfl,rfl,rfl,rfl,rfl,?_⟩|refine⟨?_,?_⟩)) (by omega))⟩
   | false=>
   conv=>whnf
   cases h5:o.peer.inner with
   | false=>
    conv=>whnf
    exact⟨⟨(),by simp[skipW,ownR,h5,h1]⟩,(Wk.i (by repeat' (first|exact LHa|exact LeL.freeV (cellsOS_free o)|exact LeL.freeV (cellsRt_free false r)|exact .bool_of (by simp[ownR,h4])|exact .A|exact LeL.fr rfl|exact LHb|refine Or.inl ⟨by simp,_,rfl,?_⟩|exact Or.inr ⟨by simp,_,_,_,_,rfl⟩|refine⟨rfl,rfl,rfl,rfl,rfl,rfl,?_⟩|refine⟨?_,?_⟩)) (by omega))⟩
   | true=>
   conv=>whnf
   cases h6:r.peer.inner with
   | false=>
    conv=>whnf
    exact⟨⟨(),by simp[skipW,ownR,h6,h1]⟩,(Wk.i (by repeat' (first|exact LHa|exact LeL.freeV (cellsOS_free o)|exact LeL.freeV (cellsRt_free false r)|exact .bool_of (by simp[ownR,h4])|exact .A|exact LeL.fr rfl|exact LHb|refine Or.inl ⟨by simp,_,rfl,?_⟩|exact Or.inr ⟨by simp,_,_,_,_,rfl⟩|refine⟨rfl,rfl,rfl,rfl,rfl,rfl,?_⟩|refine⟨?_,?_⟩)) (by omega))⟩
   | true=>
   conv=>whnf
   rw[show sayK o.self o.peer o.pol r 6=none by rw[sayK6 _ _ _ o.told,hr,show skipW ⟨o.self,o.peer,o.pol,o.told⟩ r=true by simp[skipW,ownR,h4,h5,h6]];simp]
   exact Ends.pure [] (.tupL ⟨.noA,.fr rfl,trivial⟩) (by simp)
  | true=>
  conv=>whnf
  rw[beqW]
  cases h2:decide (r.peer.id=o.peer.id)with
  | false=>
   conv=>whnf
   cases h4:decide (r.peer=noPe)with
   | true=>
    conv=>whnf
    exact⟨⟨(),by simp[skipW,ownR,h4,h2]⟩,(Wk.i (by repeat' (first|exact LHa|exact LeL.freeV (cellsOS_free o)|exact LeL.freeV (cellsRt_free false r)|exact .bool_of (by simp[ownR,h4])|exact .A|exact LeL.fr rfl|exact LHb|refine Or.inl ⟨by simp,_,rfl,?_⟩|exact Or.inr ⟨by simp,_,_,_,_,rfl⟩|refine⟨rfl,rfl,rfl,rfl,rfl,rfl,?_⟩|refine⟨?_,?_⟩)) (by omega))⟩
   | false=>
   conv=>whnf
   cases h5:o.peer.inner with
   | false=>
    conv=>whnf
    exact⟨⟨(),by simp[skipW,ownR,h5,h2]⟩,(Wk.i (by repeat' (first|exact LHa|exact LeL.freeV (cellsOS_free o)|exact LeL.freeV (cellsRt_free false r)|exact .bool_of (by simp[ownR,h4])|exact .A|exact LeL.fr rfl|exact LHb|refine Or.inl ⟨by simp,_,rfl,?_⟩|exact Or.inr ⟨by simp,_,_,_,_,rfl⟩|refine⟨rfl,rfl,rfl,rfl,rfl,rfl,?_⟩|refine⟨?_,?_⟩)) (by omega))⟩
   | true=>
   conv=>whnf
   cases h6:r.peer.inner with
   | false=>
    conv=>whnf
    exact⟨⟨(),by simp[skipW,ownR,h6,h2]⟩,(Wk.i (by repeat' (first|exact LHa|exact LeL.freeV (cellsOS_free o)|exact LeL.freeV (cellsRt_free false r)|exact .bool_of (by simp[ownR,h4])|exact .A|exact LeL.fr rfl|exact LHb|refine Or.inl ⟨by simp,_,rfl,?_⟩|exact Or.inr ⟨by simp,_,_,_,_,rfl⟩|refine⟨rfl,rfl,rfl,rfl,rfl,rfl,?_⟩|refine⟨?_,?_⟩)) (by omega))⟩
   | true=>
   conv=>whnf
   rw[show sayK o.self o.peer o.pol r 6=none by rw[sayK6 _ _ _ o.told,hr,show skipW ⟨o.self,o.peer,o.pol,o.told⟩ r=true by simp[skipW,ownR,h4,h5,h6]];simp]
   exact Ends.pure [] (.tupL ⟨.noA,.fr rfl,trivial⟩) (by simp)
  | true=>
  conv=>whnf
  rw[beqW]
  cases h3:decide (r.peer.addr=o.peer.addr)with
  | false=>
   conv=>whnf
   cases h4:decide (r.peer=noPe)with
   | true=>
    conv=>whnf
    exact⟨⟨(),by simp[skipW,ownR,h4,h3]⟩,(Wk.i (by repeat' (first|exact LHa|exact LeL.freeV (cellsOS_free o)|exact LeL.freeV (cellsRt_free false r)|exact .bool_of (by simp[ownR,h4])|exact .A|exact LeL.fr rfl|exact LHb|refine Or.inl ⟨by simp,_,rfl,?_⟩|exact Or.inr ⟨by simp,_,_,_,_,rfl⟩|refine⟨rfl,rfl,rfl,rfl,rfl,rfl,?_⟩|refine⟨?_,?_⟩)) (by omega))⟩
   | false=>
   conv=>whnf
   cases h5:o.peer.inner with
   | false=>
    conv=>whnf
    exact⟨⟨(),by simp[skipW,ownR,h5,h3]⟩,(Wk.i (by repeat' (first|exact LHa|exact LeL.freeV (cellsOS_free o)|exact LeL.freeV (cellsRt_free false r)|exact .bool_of (by simp[ownR,h4])|exact .A|exact LeL.fr rfl|exact LHb|refine Or.inl ⟨by simp,_,rfl,?_⟩|exact Or.inr ⟨by simp,_,_,_,_,rfl⟩|refine⟨rfl,rfl,rfl,rfl,rfl,rfl,?_⟩|refine⟨?_,?_⟩)) (by omega))⟩
   | true=>
   conv=>whnf
   cases h6:r.peer.inner with
   | false=>
    conv=>whnf
    exact⟨⟨(),by simp[skipW,ownR,h6,h3]⟩,(Wk.i (by repeat' (first|exact LHa|exact LeL.freeV (cellsOS_free o)|exact LeL.freeV (cellsRt_free false r)|exact .bool_of (by simp[ownR,h4])|exact .A|exact LeL.fr rfl|exact LHb|refine Or.inl ⟨by simp,_,rfl,?_⟩|exact Or.inr ⟨by simp,_,_,_,_,rfl⟩|refine⟨rfl,rfl,rfl,rfl,rfl,rfl,?_⟩|refine⟨?_,?_⟩)) (by omega))⟩
   | true=>
   conv=>whnf
   rw[show sayK o.self o.peer o.pol r 6=none by rw[sayK6 _ _ _ o.told,hr,show skipW ⟨o.self,o.peer,o.pol,o.told⟩ r=true by simp[skipW,ownR,h4,h5,h6]];simp]
   exact Ends.pure [] (.tupL ⟨.noA,.fr rfl,trivial⟩) (by simp)
  | true=>
  conv=>whnf
  rw[show sayK o.self o.peer o.pol r 6=none by rw[sayK6 _ _ _ o.told,hr,show skipW ⟨o.self,o.peer,o.pol,o.told⟩ r=true by simp[skipW,h1,h2,h3]];simp]
  exact Ends.pure [] (.tupL ⟨.noA,.fr rfl,trivial⟩) (by simp)
 obtain⟨_,hsk⟩:=q
 have hk:=sayK6 o.self o.peer o.pol o.told r
 rw[hr,if_pos rfl,show skipW ⟨o.self,o.peer,o.pol,o.told⟩ r=false from hsk,if_neg (by decide)]at hk
 have hby:=rby_ok false false o.pol o.self.sys r.pfx (sayM (ownR r) o.peer.inner r.attrs)
 rw[byV_R]at hby
 refine vc_seq (vcg_ok (rd:=false) tab_ok mixed hF (fun _=>rfl) ?_)
 conv=>whnf
 refine vc_join tab_ok mixed hF (rd:=false) (fun _=>rfl) (fun _:Unit=>⟨[(2,.ptr 0 0),(3,.ptr 1 0),(4,.ptr 2 0),(7,.ptr 3 0)],hw26 o r (cellsA false (sayM (ownR r) o.peer.inner r.attrs)),4⟩) ?_ fun q=>?_
 ·conv=>whnf
  cases h5:o.peer.inner with
  | true=>
   conv=>whnf
   cases hh:r.attrs.hasPref with
   | true=>
    conv=>whnf
    exact⟨(),(Wk.i (by repeat' (first|exact LHa|exact LeL.freeV (cellsOS_free o)|exact LeL.freeV (cellsRt_free false r)|exact LeL.fr (by rw[show sayM (ownR r) true r.attrs=r.attrs by simp[sayM,hh]];simp[cellsA,hh])|exact .A|exact LeL.fr rfl|exact LHb|refine Or.inl ⟨by simp,_,rfl,?_⟩|exact Or.inr ⟨by simp,_,_,_,_,rfl⟩|refine⟨rfl,rfl,rfl,rfl,rfl,rfl,?_⟩|refine⟨?_,?_⟩)) (by omega))⟩
   | false=>
    conv=>whnf
    exact⟨(),(Wk.i (by repeat' (first|exact LHa|exact LeL.freeV (cellsOS_free o)|exact LeL.freeV (cellsRt_free false r)|exact LeL.fr (by rw[show sayM (ownR r) true r.attrs={ r.attrs with hasPref:=true,pref:=100 } by simp[sayM,hh]];rfl)|exact .A|exact LeL.fr rfl|exact LHb|refine Or.inl ⟨by simp,_,rfl,?_⟩|exact Or.inr ⟨by simp,_,_,_,_,rfl⟩|refine⟨rfl,rfl,rfl,rfl,rfl,rfl,?_⟩|refine⟨?_,?_⟩)) (by omega))⟩
  | false=>
   conv=>whnf
   cases h4:ownR r with
   | true=>
    have hmed:r.attrs.hasMed=false→r.attrs.med=0:=fun h=>by
     simp only[rightA,Bool.and_eq_true,Bool.or_eq_true,beq_iff_eq]at hq
     rcases hq.1.1.1.2 with h1|h1
     ·rw[h]at h1;cases h1
     ·exact h1
    conv=>whnf
    exact⟨(),(Wk.i (by repeat' (first|exact LHa|exact LeL.freeV (cellsOS_free o)|exact LeL.freeV (cellsRt_free false r)|exact LeL.fr (by rw[show sayM true false r.attrs={ r.attrs with hasPref:=false,pref:=0 } by(cases hm:r.attrs.hasMed<;>simp[sayM,hm,hmed])];rfl)|exact .A|exact LeL.fr rfl|exact LHb|refine Or.inl ⟨by simp,_,rfl,?_⟩|exact Or.inr ⟨by simp,_,_,_,_,rfl⟩|refine⟨rfl,rfl,rfl,rfl,rfl,rfl,?_⟩|refine⟨?_,?_⟩)) (by omega))⟩
   | false=>
    conv=>whnf
    exact⟨(),(Wk.i (by repeat' (first|exact LHa|exact LeL.freeV (cellsOS_free o)|exact LeL.freeV (cellsRt_free false r)|exact LeL.fr (by rw[show sayM false false r.attrs={ r.attrs with hasPref:=false,pref:=0,hasMed:=false,med:=0 } by simp[sayM]];rfl)|exact .A|exact LeL.fr rfl|exact LHb|refine Or.inl ⟨by simp,_,rfl,?_⟩|exact Or.inr ⟨by simp,_,_,_,_,rfl⟩|refine⟨rfl,rfl,rfl,rfl,rfl,rfl,?_⟩|refine⟨?_,?_⟩)) (by omega))⟩
 generalize byR o.pol o.self.sys r.pfx (sayM (ownR r) o.peer.inner r.attrs)=b at hby hk
 obtain⟨x,y⟩:=b
 refine vcg_ok (rd:=false) tab_ok mixed hF (fun _=>rfl) ?_
 conv=>whnf
 refine callV_pure hby ⟨.fr rfl,.fr rfl,.fr rfl,.fr rfl,trivial⟩ ?_
 conv=>whnf
 cases y with
 | false=>
  rw[hk]
  conv=>whnf
  exact Ends.pure [] (.tupL ⟨.noA,.fr rfl,trivial⟩) (by simp)
 | true=>
 conv=>whnf
 cases h5:o.peer.inner with
 | true=>
  rw[h5]at hk
  rw[hk]
  conv=>whnf
  exact Ends.pure [] (.tupL ⟨.fr rfl,.fr rfl,trivial⟩) (by simp)
 | false=>
 conv=>whnf
 refine callV_pure (ref_prepend_ok false x o.self.sys 1) ⟨.fr rfl,.fr rfl,.fr rfl,trivial⟩ ?_
 rw[h5]at hk
 by_cases hpe:prepE x o.self.sys 1=0
 ·conv=>whnf
  rw[show(prepE x o.self.sys 1 != 0)=false by simp[hpe]]
  rw[if_pos rfl,if_neg (by decide),if_pos hpe]at hk
  rw[hk]
  conv=>whnf
  exact Ends.pure [] (.tupL ⟨.eq_of rfl (encA_free false { prepA x o.self.sys 1 with next:=o.self.addr }),.fr rfl,trivial⟩) (by simp)
 ·conv=>whnf
  rw[show(prepE x o.self.sys 1 != 0)=true by simp[hpe]]
  rw[if_pos rfl,if_neg (by decide),if_neg hpe]at hk
  rw[hk]
  conv=>whnf
  exact Ends.pure [] (.tupL ⟨.noA,.fr rfl,trivial⟩) (by simp)
end
section
open Go.Proofs.Tryz (prog)
attribute [local irreducible] CallV RoundV aggK
theorem fits26_ok (fr:Bool) (u:Upd) (hs:Small u):PCon prog 41 [encU fr u] (.bool (decide (checkU u=0))):=by
 have hc:=rcheck_ok fr u hs
 refine callV_of (fn:=Go.Proofs.Tryz.f41) (body:=_) tab_ok mixed rfl rfl (by decide) (by simp[Go.Proofs.Tryz.f41]) ?_
 conv=>whnf
 refine callV_pure hc ⟨.fr rfl,trivial⟩ ?_
 conv=>whnf
 exact(Ends.pure [] (by repeat' (first|exact True.intro|exact .bool_of (by by_cases h:checkU u=0<;>simp[h])|exact .A|exact LeL.fr rfl|refine .tupL ?_|refine .aggL ?_|refine⟨?_,?_⟩)) (by simp))
theorem says26_ok (o:OutS) (r:Route):PCon prog 15 [encOS o,encRt false r] (optV false (sayO o.self o.peer o.pol r)):=by
 have hw:=words26_ok o r
 have e7:sayO o.self o.peer o.pol r=(sayK o.self o.peer o.pol r 6).bind fun a=>if checkU ⟨[],[r.pfx],a⟩=0 then some a else none:=rfl
 rw[e7]
 refine callV_of (fn:=Go.Proofs.Tryz.f15) (body:=_) tab_ok mixed rfl rfl (by decide) (by simp[Go.Proofs.Tryz.f15]) ?_
 conv=>whnf
 refine callV_pure hw ⟨.fr rfl,.fr rfl,trivial⟩ ?_
 cases hk:sayK o.self o.peer o.pol r 6 with
 | none=>
  conv=>whnf
  exact Ends.pure [] (.tupL ⟨.noA,.fr rfl,trivial⟩) (by simp)
 | some a=>
  have hf:=fits26_ok false ⟨[],[r.pfx],a⟩ ⟨by simp,by simp,sayK_few hk⟩
  conv=>whnf
  refine callV_lend [4] hf ⟨.aggL ⟨.snil_sl,.fresh_off (LeV.freezeR (by simp) rfl (by simp) (.free (rowsP_free [r.pfx]))),.fr rfl,.fr rfl,.fr rfl,.fr rfl,.fr rfl,.fr rfl,.fr rfl,.fr rfl,trivial⟩,trivial⟩ (by intro v hv;simp at hv;subst hv;exact encU_cld _) (one_none rfl) .bool ?_
  by_cases hc:checkU ⟨[],[r.pfx],a⟩=0
  ·rw[Option.bind_some,if_pos hc,decide_eq_true hc]
   conv=>whnf
   exact Ends.pure [] (.tupL ⟨.fr rfl,.fr rfl,trivial⟩) (by simp)
  ·rw[Option.bind_some,if_neg hc,decide_eq_false hc]
   conv=>whnf
   exact Ends.pure [] (.tupL ⟨.noA,.fr rfl,trivial⟩) (by simp)
end
section
open Go.Proofs.Tryz (prog)
abbrev rowsUf (l:List Upd):List (List V):=l.map (cellsU false)
theorem rowsUf_free (l:List Upd):∀x∈rowsUf l,∀v∈x,Free v:=by
 intro x hx v hv
 obtain⟨u,_,rfl⟩:=List.mem_map.1 hx
 exact cellsU_free false u v hv
instance {l:List Upd}:FreeRI (l.map (cellsU false)):=⟨⟨rowsUf_free l⟩⟩
instance {fr l}:FreeI (encEns fr l):=⟨⟨encEns_free fr l⟩⟩
attribute [local irreducible] CallV RoundV aggK
end
section
open Go.Proofs.Tryz (prog)
attribute [local irreducible] CallV RoundV aggK VC
theorem encEn_rows_free (l:List (Prefix × Attrs)):∀x∈l.map (encEn false),∀v∈x,Free v:=by
 intro x hx v hv
 obtain⟨e,_,rfl⟩:=List.mem_map.1 hx
 exact encEn_free false e v hv
instance {l:List (Prefix × Attrs)}:FreeRI (l.map (encEn false)):=⟨⟨encEn_rows_free l⟩⟩
instance {l:List Prefix}:FreeRI (l.map cellsP):=⟨⟨rowsP_free l⟩⟩
theorem LeL.noOS {h:Heap} {nx nx':Nat} {ρ:Nat→Nat} {Z:List Nat}:LeL h nx ρ nx' Z [.int .u32 0,.int .u32 0,.int .u32 0,.int .u32 0,.int .u32 0,.int .u32 0,.bool false,.snil,.bool false,.snil] (cellsOS noOS):=
 ⟨.fr rfl,.fr rfl,.fr rfl,.fr rfl,.fr rfl,.fr rfl,.fr rfl,.snil_sl,.fr rfl,.snil_sl,trivial⟩
end
section
open Go.Proofs.Tryz (prog)
attribute [local irreducible] CallV RoundV aggK
theorem num26_ok (n:Int):PCon prog 13 [.int .i64 n] (.int .i64 n):=by
 refine callV_of (fn:=Go.Proofs.Tryz.f13) (body:=_) tab_ok mixed rfl rfl (by decide) (by simp[Go.Proofs.Tryz.f13]) ?_
 conv=>whnf
 exact(Ends.pure [] (by repeat' (first|exact True.intro|exact .fr rfl|exact .A|exact LeL.fr rfl|refine .tupL ?_|refine .aggL ?_|refine⟨?_,?_⟩)) (by simp))
def few26P (r:Route):Bool:=r.attrs.path.all fun p=>decide (p.ns.length≤40)
def few26R (r:Route):Bool:=decide (r.attrs.path.length≤20)&& decide (r.attrs.tags.length≤40)&& few26P r
def few26S (l:List Route) (most:Int):Bool:=l.all few26R && decide ((l.length:Int)≤most)
theorem few26S_false {l:List Route} {most:Int} {i:Nat} (h:i < l.length) (hx:few26R l[i]=false):few26S l most=false:=by
 rw[few26S,Bool.and_eq_false_iff]
 left
 cases hh:l.all few26R with
 | false=>rfl
 | true=>rw[List.all_eq_true.1 hh _ (List.getElem_mem h)]at hx;cases hx
theorem few26R_3 {r:Route} {k:Nat} (hk:k < r.attrs.path.length) (h:¬ r.attrs.path[k].ns.length≤40):few26R r=false:=by
 have:few26P r=false:=by
  cases hh:few26P r with
  | false=>rfl
  | true=>exact absurd (of_decide_eq_true (List.all_eq_true.1 hh _ (List.getElem_mem hk))) h
 simp[few26R,this]
theorem few26_small {r:Route} (h:few26R r=true):smallA r.attrs:=by
 simp only[few26R,few26P,Bool.and_eq_true,decide_eq_true_eq,List.all_eq_true]at h
 exact⟨by omega,fun p hp=>by have:=h.2 p hp;omega,by omega⟩
theorem few26S_out {l:List Route} {most:Int} (h:few26S l most=true):(∀r∈l,smallA r.attrs)∧(l.length:Int)≤most:=by
 simp only[few26S,Bool.and_eq_true,decide_eq_true_eq,List.all_eq_true]at h
 exact⟨fun r hr=>few26_small (h.1 r hr),h.2⟩
theorem few26_ok (l:List Route) (most:Int):PCon prog 9 [encRts l,.int .i64 most] (.bool (few26S l most)):=by
 refine callV_of (fn:=Go.Proofs.Tryz.f9) (body:=_) tab_ok mixed rfl rfl (by decide) (by simp[Go.Proofs.Tryz.f9]) ?_
 conv=>whnf
 refine vcg_loop tab_ok mixed (fun i:{i:Nat // i≤l.length∧∀j,(h:j < l.length)→j < i→few26R l[j]=true}=>⟨[(0,encRts l),(1,.int .i64 most),(5,cI i.1)],[],0⟩) (fun i=>l.length - i.1) ⟨0,by omega,fun j _ h=>by omega⟩ (Wk.i (by repeat' (first|exact LHa|exact .int_of (by simp)|exact .A|exact LeL.fr rfl|exact LHb|refine Or.inl ⟨by simp,_,rfl,?_⟩|exact Or.inr ⟨by simp,_,_,_,_,rfl⟩|refine⟨rfl,rfl,rfl,rfl,rfl,rfl,?_⟩|refine⟨?_,?_⟩)) (by omega)) (fun i=>?_)
 obtain⟨i,hi,hz⟩:=i
 conv=>whnf
 intro hgl
 have hgl:l.length≤maxLen:=by simpa[gd]using hgl
 conv=>whnf
 split
 ·rename_i hc
  have hc:i < l.length:=by simpa using hc
  conv=>whnf
  refine ixK (idxRt hc) ?_
  conv=>whnf
  intro _
  conv=>whnf
  split
  ·rename_i hh
   conv=>whnf
   exact(Ends.pure [] (by repeat' (first|exact True.intro|exact .bool_of (few26S_false hc (by simp[few26R];intro h;simp at hh;omega)).symm|exact .A|exact LeL.fr rfl|refine .tupL ?_|refine .aggL ?_|refine⟨?_,?_⟩)) (by simp))
  rename_i h1
  conv=>whnf
  refine ixK (idxRt hc) ?_
  conv=>whnf
  intro _
  conv=>whnf
  split
  ·rename_i hh
   conv=>whnf
   exact(Ends.pure [] (by repeat' (first|exact True.intro|exact .bool_of (few26S_false hc (by simp[few26R];intro _ h;simp at hh;omega)).symm|exact .A|exact LeL.fr rfl|refine .tupL ?_|refine .aggL ?_|refine⟨?_,?_⟩)) (by simp))
  rename_i h2
  have hU:(decide (l[i].attrs.path.length≤20)&& decide (l[i].attrs.tags.length≤40))=true:=by
   simp at h1 h2 ⊢
   omega
  conv=>whnf
  refine vcg_loop tab_ok mixed (fun k:{k:Nat // k≤l[i].attrs.path.length∧∀j,(h:j < l[i].attrs.path.length)→j < k→l[i].attrs.path[j].ns.length≤40}=>⟨[(0,encRts l),(1,.int .i64 most),(5,cI i),(6,cI k.1)],[],0⟩) (fun k=>l[i].attrs.path.length - k.1) ⟨0,by omega,fun j _ h=>by omega⟩ (Wk.i (by repeat' (first|exact LHa|exact .int_of (by simp)|exact .A|exact LeL.fr rfl|exact LHb|refine Or.inl ⟨by simp,_,rfl,?_⟩|exact Or.inr ⟨by simp,_,_,_,_,rfl⟩|refine⟨rfl,rfl,rfl,rfl,rfl,rfl,?_⟩|refine⟨?_,?_⟩)) (by omega)) (fun k=>?_)
  obtain⟨k,hk,hzk⟩:=k
  conv=>whnf
  refine ixK (idxRt hc) ?_
  conv=>whnf
  intro hgk
  have hgk:l[i].attrs.path.length≤maxLen:=by simpa[gd]using hgk
  conv=>whnf
  split
  ·rename_i hck
   have hck:k < l[i].attrs.path.length:=by simpa using hck
   conv=>whnf
   refine ixK (idxRt hc) ?_
   conv=>whnf
   refine ixK (idxL hck) ?_
   conv=>whnf
   intro _
   conv=>whnf
   split
   ·rename_i hh
    conv=>whnf
    exact(Ends.pure [] (by repeat' (first|exact True.intro|exact .bool_of (few26S_false hc (few26R_3 hck (by intro h;simp at hh;omega))).symm|exact .A|exact LeL.fr rfl|refine .tupL ?_|refine .aggL ?_|refine⟨?_,?_⟩)) (by simp))
   ·rename_i hh
    conv=>whnf
    exact⟨⟨k + 1,by omega,fun j hj hlt=>by
     rcases Nat.lt_or_ge j k with h|h
     ·exact hzk j hj h
     ·obtain rfl:j=k:=by omega
      simp at hh;omega⟩,(Wk.i (by repeat' (first|exact LHa|exact .int_of (wrap64_succ hck hgk)|exact .A|exact LeL.fr rfl|exact LHb|refine Or.inl ⟨by simp,_,rfl,?_⟩|exact Or.inr ⟨by simp,_,_,_,_,rfl⟩|refine⟨rfl,rfl,rfl,rfl,rfl,rfl,?_⟩|refine⟨?_,?_⟩)) (by omega)),by simp only;omega⟩
  rename_i hck
  have hck:k=l[i].attrs.path.length:=by simp at hck;omega
  have hX:few26R l[i]=true:=by
   rw[few26R,hU,few26P,List.all_eq_true.2 (fun x hx=>by obtain⟨j,hj,rfl⟩:=List.getElem_of_mem hx;exact decide_eq_true (hzk j hj (by omega)))]
   rfl
  conv=>whnf
  exact⟨⟨i + 1,by omega,fun j hj hlt=>by
   rcases Nat.lt_or_ge j i with h|h
   ·exact hz j hj h
   ·obtain rfl:j=i:=by omega
    exact hX⟩,(Wk.i (by repeat' (first|exact LHa|exact .int_of (wrap64_succ hc hgl)|exact .A|exact LeL.fr rfl|exact LHb|refine Or.inl ⟨by simp,_,rfl,?_⟩|exact Or.inr ⟨by simp,_,_,_,_,rfl⟩|refine⟨rfl,rfl,rfl,rfl,rfl,rfl,?_⟩|refine⟨?_,?_⟩)) (by omega)),by simp only;omega⟩
 rename_i hc
 have hc:i=l.length:=by simp at hc;omega
 subst hc
 conv=>whnf
 intro _
 conv=>whnf
 exact(Ends.pure [] (by repeat' (first|exact True.intro|exact .bool_of (by rw[few26S,List.all_eq_true.2 (fun x hx=>by obtain⟨j,hj,rfl⟩:=List.getElem_of_mem hx;exact hz j hj hj)];simp)|exact .A|exact LeL.fr rfl|refine .tupL ?_|refine .aggL ?_|refine⟨?_,?_⟩)) (by simp))
end
section
open Go.Proofs.Tryz (prog)
def sf1:SelfL:=⟨1,1,9⟩
def a5:Attrs:={ noA with next:=5 }
def aW:Attrs:={ noA with path:=[⟨false,[1]⟩],next:=9 }
def rtW:Route:=⟨ten24,a5,noPe⟩
def rtD:Route:=⟨ten24,a5,pe2⟩
def mW:List (Prefix × Attrs):=[(ten24,aW)]
theorem ckW:checkU ⟨[],[ten24],aW⟩=0:=by
 have hm:mayU ⟨[],[ten24],aW⟩=true:=by
  simp only[mayU,rise0_24,rise1_24 (show prefOk ten24=true by decide),apartP,saidU]
  decide
 rw[checkU,if_pos hm,if_neg (by decide)]
theorem sayO_bind (s:SelfL) (pe:Peer) (pol:Policy) (r:Route):sayO s pe pol r=(sayK s pe pol r 6).bind fun a=>if checkU ⟨[],[r.pfx],a⟩=0 then some a else none:=rfl
theorem sayW:sayO sf1 pe2 polE rtW=some aW:=by
 have h6:sayK sf1 pe2 polE rtW 6=some aW:=by decide
 rw[sayO_bind,h6]
 show(if checkU ⟨[],[ten24],aW⟩=0 then some aW else none)=some aW
 rw[if_pos ckW]
theorem sayD:sayO sf1 pe2 polE rtD=none:=by
 have h6:sayK sf1 pe2 polE rtD 6=none:=by decide
 rw[sayO_bind,h6];rfl
theorem nowW:nowL sf1 pe2 polE [rtW]=mW:=by simp only[nowL,List.filterMap_cons,List.filterMap_nil,sayW];rfl
theorem nowD:nowL sf1 pe2 polE [rtD]=[]:=by simp only[nowL,List.filterMap_cons,List.filterMap_nil,sayD];rfl
theorem sort1 (p:Prefix):sortPs [p]=[p]:=sortPs_self (by simp)
theorem sort0:sortPs []=[]:=sortPs_self (by simp)
theorem keysW:sortPs (keysE mW)=[ten24]:=sort1 ten24
theorem upd_a:updP [] mW=[⟨[],[ten24],aW⟩]:=by
 unfold updP
 rw[keysW,show keysE ([]:List (Prefix × Attrs))=[]from rfl,sort0]
 decide
theorem upd_b:updP mW mW=[]:=by
 unfold updP
 rw[keysW]
 decide
theorem upd_c:updP mW []=[⟨[ten24],[],noA⟩]:=by
 unfold updP
 rw[keysW,show keysE ([]:List (Prefix × Attrs))=[]from rfl,sort0]
 decide
theorem upd_d:updP [] []=[]:=by
 unfold updP
 rw[show keysE ([]:List (Prefix × Attrs))=[]from rfl,sort0]
 decide
theorem a5_small:smallA a5:=⟨by decide,by decide,by decide⟩
theorem okW:okT [rtW]=true:=by decide
theorem okD:okT [rtD]=true:=by decide
theorem okWW:okT [rtW,rtW]=false:=by decide
end
section
open Go.Proofs.Tryz (prog)
attribute [local irreducible] CallV RoundV aggK
theorem rt_small (r:Route) (h:smallA r.attrs):∀x∈[r],smallA x.attrs:=by simpa using h
theorem encUt2_free (fr:Bool) (l:List Upd) (n:Int):Free (.tup [encUt fr l,.int .i64 n]):=.tup (by intro v hv;simp at hv;rcases hv with rfl|rfl;exact encUt_free _ _;exact .int)
theorem rt_free (r:Route):∀v∈cellsRt false r,Free v:=fun v hv=>rowsRt_free [r] _ (by simp) v hv
theorem works26_ok:PCon prog 10 [] (.bool true):=by
 have hA:=(tell_B sf1 pe2 polE [] (by decide) [rtW] (by decide) (rt_small _ a5_small) okW).callV
 rw[nowW,upd_a]at hA
 have hB:=(tell_B sf1 pe2 polE mW (by decide) [rtW] (by decide) (rt_small _ a5_small) okW).callV
 rw[nowW,upd_b]at hB
 have hC:=(tell_B sf1 pe2 polE mW (by decide) [] (by decide) (by simp) (by decide)).callV
 rw[show nowL sf1 pe2 polE []=[]from rfl,upd_c]at hC
 have hD:=(tell_B sf1 pe2 polE [] (by decide) [rtD] (by decide) (rt_small _ a5_small) okD).callV
 rw[nowD,upd_d]at hD
 have hE:=tell_bad sf1 pe2 polE [] [rtW,rtW] (by simp;exact a5_small) okWW
 have n0:=num26_ok 0
 have n2:=num26_ok 2
 have hnew:=newO_ok sf1 pe2 polE (by decide)
 refine callV_of (fn:=Go.Proofs.Tryz.f10) (body:=_) tab_ok mixed rfl rfl (by decide) (by simp[Go.Proofs.Tryz.f10]) ?_
 conv=>whnf
 refine callV_frame (nx:=2) (n0:=0) id hnew ⟨.fr rfl,.fr rfl,.aggL ⟨.snil_sl,.fr rfl,trivial⟩,trivial⟩ (LeH.nil (by omega) (fun _ h=>by omega) (by simp)) (fun b hb=>by omega) (fun b hb=>by omega) ?_
 rintro v h' nx' ⟨rfl,rfl,rfl⟩ _
 refine⟨.tup [.ptr 2 0,.int .i64 0],[(2,varOut sf1 pe2 polE []),(0,some (.var true 31 (cellsP ten24))),(1,some (.var true 26 (cellsPe pe2)))],.tup ⟨.ptr rfl,.free .int,trivial⟩,(by repeat' (first|exact True.intro|exact Or.inr ⟨by decide,rfl⟩|exact Or.inl ⟨0,rfl,by omega,_,rfl,.var (cellsOut_free _ _ _ _)⟩|refine⟨?_,?_⟩)),?_⟩
 conv=>whnf
 refine callV_freeze (args':=[.ptr 2 0,encRts [rtW]]) [4] (h':=[(2,varOut sf1 pe2 polE []),(0,some (.var true 31 (cellsP ten24))),(1,some (.var true 26 (cellsPe pe2))),(3,some (.var true 37 (cellsRt false rtW)))]) (LeH.i (by repeat' (first|exact LHa|exact LeL.freeV (cellsOut_free _ _ _ _)|exact⟨.fr rfl,.fr rfl,.fr rfl,.snil_sl,.fr rfl,.fr rfl,.fr rfl,.fr rfl,.fr rfl,.snil_sl,.fr rfl,.fr rfl,.fr rfl,.fr rfl,trivial⟩|exact .A|exact LeL.fr rfl|exact LHb|refine Or.inl ⟨by simp,_,rfl,?_⟩|exact Or.inr ⟨by simp,_,_,_,_,rfl⟩|refine⟨rfl,rfl,rfl,rfl,rfl,rfl,?_⟩|refine⟨?_,?_⟩)) (Nat.le_refl _) (by intro z hz;simp only[List.mem_cons,List.not_mem_nil,or_false]at hz;rcases hz with rfl<;>exact ne_none_of rfl)) ⟨.ptr rfl (by decide),LeV.fresh_off (LeV.freezeR (fr:=true) (ys:=rowsRt [rtW]) (by simp) rfl (by simp) ⟨⟨.fr rfl,.fr rfl,.fr rfl,.snil_sl,.fr rfl,.fr rfl,.fr rfl,.fr rfl,.fr rfl,.snil_sl,.fr rfl,.fr rfl,.fr rfl,.fr rfl,trivial⟩,trivial⟩),trivial⟩ ?_
 refine callV_out hA rfl (cellsOut_free _ _ _ _) (cellsOut_free _ _ _ _) ⟨.ptr rfl (by omega),.fr rfl,trivial⟩ ?_
 rintro v rfl
 refine⟨encUt2_free _ _ _,?_⟩
 show _
 conv=>whnf
 refine callV_freeze (args':=[.ptr 2 0,encRts [rtW]]) [5] (h':=[(2,varOut sf1 pe2 polE mW),(0,some (.var true 31 (cellsP ten24))),(1,some (.var true 26 (cellsPe pe2))),(3,some (.var true 37 (cellsRt false rtW)))]) (LeH.i (by repeat' (first|exact LHa|exact LeL.freeV (cellsOut_free _ _ _ _)|exact⟨.fr rfl,.fr rfl,.fr rfl,.snil_sl,.fr rfl,.fr rfl,.fr rfl,.fr rfl,.fr rfl,.snil_sl,.fr rfl,.fr rfl,.fr rfl,.fr rfl,trivial⟩|exact .A|exact LeL.fr rfl|exact LHb|refine Or.inl ⟨by simp,_,rfl,?_⟩|exact Or.inr ⟨by simp,_,_,_,_,rfl⟩|refine⟨rfl,rfl,rfl,rfl,rfl,rfl,?_⟩|refine⟨?_,?_⟩)) (Nat.le_refl _) (by intro z hz;simp only[List.mem_cons,List.not_mem_nil,or_false]at hz;rcases hz with rfl<;>exact ne_none_of rfl)) ⟨.ptr rfl (by decide),LeV.fresh_off (LeV.freezeR (fr:=true) (ys:=rowsRt [rtW]) (by simp) rfl (by simp) ⟨LeL.freeV (rt_free rtW),trivial⟩),trivial⟩ ?_
 refine callV_out hB rfl (cellsOut_free _ _ _ _) (cellsOut_free _ _ _ _) ⟨.ptr rfl (by omega),.fr rfl,trivial⟩ ?_
 rintro v rfl
 refine⟨encUt2_free _ _ _,?_⟩
 show _
 conv=>whnf
 refine callV_out hC rfl (cellsOut_free _ _ _ _) (cellsOut_free _ _ _ _) ⟨.ptr rfl (by omega),.snil_sl,trivial⟩ ?_
 rintro v rfl
 refine⟨encUt2_free _ _ _,?_⟩
 show _
 conv=>whnf
 refine callV_freeze (args':=[.ptr 2 0,encRts [rtD]]) [6] (h':=[(2,varOut sf1 pe2 polE []),(0,some (.var true 31 (cellsP ten24))),(1,some (.var true 26 (cellsPe pe2))),(3,some (.var true 37 (cellsRt false rtW)))]) (LeH.i (by repeat' (first|exact LHa|exact LeL.freeV (cellsOut_free _ _ _ _)|exact⟨.fr rfl,.fr rfl,.fr rfl,.snil_sl,.fr rfl,.fr rfl,.fr rfl,.fr rfl,.fr rfl,.snil_sl,.fr rfl,.fr rfl,.fr rfl,.fr rfl,trivial⟩|exact .A|exact LeL.fr rfl|exact LHb|refine Or.inl ⟨by simp,_,rfl,?_⟩|exact Or.inr ⟨by simp,_,_,_,_,rfl⟩|refine⟨rfl,rfl,rfl,rfl,rfl,rfl,?_⟩|refine⟨?_,?_⟩)) (Nat.le_refl _) (by intro z hz;simp only[List.mem_cons,List.not_mem_nil,or_false]at hz;rcases hz with rfl<;>exact ne_none_of rfl)) ⟨.ptr rfl (by decide),LeV.fresh_off (LeV.freezeR (fr:=true) (ys:=rowsRt [rtD]) (by simp) rfl (by simp) ⟨⟨.fr rfl,.fr rfl,.fr rfl,.snil_sl,.fr rfl,.fr rfl,.fr rfl,.fr rfl,.fr rfl,.snil_sl,.fr rfl,.fr rfl,.fr rfl,.fr rfl,trivial⟩,trivial⟩),trivial⟩ ?_
 refine callV_out hD rfl (cellsOut_free _ _ _ _) (cellsOut_free _ _ _ _) ⟨.ptr rfl (by omega),.fr rfl,trivial⟩ ?_
 rintro v rfl
 refine⟨encUt2_free _ _ _,?_⟩
 show _
 conv=>whnf
 refine callV_freeze (args':=[.ptr 2 0,encRts [rtW,rtW]]) [7] (h':=[(2,varOut sf1 pe2 polE []),(0,some (.var true 31 (cellsP ten24))),(1,some (.var true 26 (cellsPe pe2))),(3,some (.var true 37 (cellsRt false rtW)))]) (LeH.i (by repeat' (first|exact LHa|exact LeL.freeV (cellsOut_free _ _ _ _)|exact⟨.fr rfl,.fr rfl,.fr rfl,.snil_sl,.fr rfl,.fr rfl,.fr rfl,.fr rfl,.fr rfl,.snil_sl,.fr rfl,.fr rfl,.fr rfl,.fr rfl,trivial⟩|exact .A|exact LeL.fr rfl|exact LHb|refine Or.inl ⟨by simp,_,rfl,?_⟩|exact Or.inr ⟨by simp,_,_,_,_,rfl⟩|refine⟨rfl,rfl,rfl,rfl,rfl,rfl,?_⟩|refine⟨?_,?_⟩)) (Nat.le_refl _) (by intro z hz;simp only[List.mem_cons,List.not_mem_nil,or_false]at hz;rcases hz with rfl<;>exact ne_none_of rfl)) ⟨.ptr rfl (by decide),LeV.fresh_off (LeV.freezeR (fr:=true) (ys:=rowsRt [rtW,rtW]) (by simp) rfl (by simp) ⟨LeL.freeV (rt_free rtW),LeL.freeV (rt_free rtW),trivial⟩),trivial⟩ ?_
 refine callV_out hE rfl (cellsOut_free _ _ _ _) (cellsOut_free _ _ _ _) ⟨.ptr rfl (by omega),.fr rfl,trivial⟩ ?_
 rintro v rfl
 refine⟨.tup (by simp;exact⟨.snil,.int⟩),?_⟩
 show _
 conv=>whnf
 refine callV_pure n0 ⟨.fr rfl,trivial⟩ ?_
 conv=>whnf
 refine callV_pure n0 ⟨.fr rfl,trivial⟩ ?_
 conv=>whnf
 refine callV_pure n0 ⟨.fr rfl,trivial⟩ ?_
 conv=>whnf
 refine callV_pure n0 ⟨.fr rfl,trivial⟩ ?_
 conv=>whnf
 refine callV_pure n0 ⟨.fr rfl,trivial⟩ ?_
 conv=>whnf
 refine callV_pure n2 ⟨.fr rfl,trivial⟩ ?_
 conv=>whnf
 intro _
 conv=>whnf
 refine⟨rfl,_,⟨by decide,rfl⟩,?_⟩
 conv=>whnf
 intro _
 conv=>whnf
 refine⟨rfl,_,⟨by decide,rfl⟩,?_⟩
 conv=>whnf
 refine⟨rfl,_,⟨by decide,rfl⟩,?_⟩
 conv=>whnf
 intro _
 conv=>whnf
 intro _
 conv=>whnf
 intro _
 conv=>whnf
 refine⟨rfl,_,⟨by decide,rfl⟩,?_⟩
 conv=>whnf
 intro _
 conv=>whnf
 intro _
 conv=>whnf
 exact(Ends.pA)
end
section
open Go.Proofs.Tryz (prog)
attribute [local irreducible] CallV RoundV aggK
theorem cellsRt_cold (r:Route):∀v∈cellsRt false r,Cold v:=by
 intro v hv
 simp only[cellsRt,cellsP,cellsA,cellsPe,List.mem_append,List.mem_cons,List.not_mem_nil,or_false]at hv
 rcases hv with((rfl|rfl)|rfl|rfl|rfl|rfl|rfl|rfl|rfl|rfl)|rfl|rfl|rfl|rfl
 all_goals first|exact .int|exact .bool|exact encLegs_cold _|exact encW_cold _
theorem encRts_cold (l:List Route):Cold (encRts l):=.sl fun x hx v hv=>by
 obtain⟨r,_,rfl⟩:=List.mem_map.1 hx
 exact cellsRt_cold r v hv
theorem optV_free (fr:Bool) (o:Option Attrs):Free (optV fr o):=.tup (by simp;exact⟨encA_free _ _,.bool⟩)
theorem saysL_ok (s:SelfL) (pe:Peer) (pol:Policy) (r:Route):PCon prog 3 [encSf s,encPe pe,encPo false pol,encRt false r] (.bool true):=by
 have hfew:=few26_ok [r] 1
 have hrn:=refNew26_ok s pe pol
 have n0:=num26_ok 0
 have n2:=num26_ok 2
 refine callV_of (fn:=Go.Proofs.Tryz.f3) (body:=_) tab_ok mixed rfl rfl (by decide) (by simp[Go.Proofs.Tryz.f3]) ?_
 conv=>whnf
 intro _
 conv=>whnf
 split
 ·conv=>whnf
  refine callV_pure works26_ok trivial ?_
  conv=>whnf
  exact(Ends.pA)
 conv=>whnf
 refine callV_lend [4] hfew ⟨LeV.fresh_off (LeV.freezeR (fr:=true) (ys:=rowsRt [r]) (by simp) rfl (by simp) ⟨LeL.freeV (rt_free r),trivial⟩),.fr rfl,trivial⟩ (by intro v hv;simp at hv;rcases hv with rfl|rfl;exact encRts_cold _;exact .int) (one_none rfl) .bool ?_
 cases hf:few26S [r] 1 with
 | false=>
  conv=>whnf
  refine callV_pure works26_ok trivial ?_
  conv=>whnf
  exact(Ends.pA)
 | true=>
 have hsm:smallA r.attrs:=(few26S_out hf).1 r (by simp)
 conv=>whnf
 cases hn:newO s pe pol with
 | false=>
  rw[newOE,hn,if_neg (by decide)]at hrn
  refine callV_pure (newO_bad s pe pol hn) ⟨.fr rfl,.fr rfl,.fr rfl,trivial⟩ ?_
  conv=>whnf
  refine callV_pure hrn ⟨.fr rfl,.fr rfl,.fr rfl,trivial⟩ ?_
  conv=>whnf
  refine callV_pure n2 ⟨.fr rfl,trivial⟩ ?_
  conv=>whnf
  refine callV_pure works26_ok trivial ?_
  conv=>whnf
  exact(Ends.pA)
 | true=>
 have hnew:=newO_ok s pe pol hn
 have hs1:=says_ok s pe pol [] r hsm
 rw[newOE,hn,if_pos rfl]at hrn
 have hs2:=says26_ok (newOS s pe pol) r
 rw[newOS,hn,if_pos rfl]at hs2 hrn
 have hsame:=ref_same_ok true false ((sayO s pe pol r).getD noA) ((sayO s pe pol r).getD noA)
 rw[sameA_refl]at hsame
 refine callV_frame (nx:=5) (n0:=0) id hnew ⟨.fr rfl,.fr rfl,.fr rfl,trivial⟩ (LeH.nil (by omega) (fun _ h=>by omega) (by simp)) (fun b hb=>by omega) (fun b hb=>by omega) ?_
 rintro v h' nx' ⟨rfl,rfl,rfl⟩ _
 refine⟨.tup [.ptr 5 0,.int .i64 0],[(5,varOut s pe pol []),(0,some (.var true 24 (cellsSf s))),(1,some (.var true 26 (cellsPe pe))),(2,some (.var true 29 (cellsPo false pol))),(3,some (.var true 37 (cellsRt false r)))],.tup ⟨.ptr rfl,.free .int,trivial⟩,(by repeat' (first|exact True.intro|exact Or.inr ⟨by decide,rfl⟩|exact Or.inl ⟨0,rfl,by omega,_,rfl,.var (cellsOut_free _ _ _ _)⟩|refine⟨?_,?_⟩)),?_⟩
 conv=>whnf
 refine callV_pure hrn ⟨.fr rfl,.fr rfl,.fr rfl,trivial⟩ ?_
 conv=>whnf
 refine callV_out hs1 rfl (cellsOut_free _ _ _ _) (cellsOut_free _ _ _ _) ⟨.ptr rfl (by omega),.fr rfl,trivial⟩ ?_
 rintro v rfl
 refine⟨optV_free _ _,?_⟩
 show _
 conv=>whnf
 refine callV_pure hs2 ⟨.fr rfl,.fr rfl,trivial⟩ ?_
 conv=>whnf
 refine callV_pure n0 ⟨.fr rfl,trivial⟩ ?_
 conv=>whnf
 refine callV_pure hsame ⟨.fr rfl,.fr rfl,trivial⟩ ?_
 conv=>whnf
 cases hb:(sayO s pe pol r).isSome
 all_goals
  conv=>whnf
  refine callV_pure works26_ok trivial ?_
  conv=>whnf
  exact(Ends.pA)
end
section
open Go.Proofs.Tryz (prog)
attribute [local irreducible] CallV RoundV aggK
structure RelO (s:SelfL) (pe:Peer) (pol:Policy) (m:List (Prefix × Attrs)) (o:OutS):Prop where
 eself:o.self=s
 epeer:o.peer=pe
 epol:o.pol=pol
 perm:o.told.Perm m
 ris:RisE o.told
 few:m.length≤1000
 good:∀e∈m,rightA e.2=true
theorem RelO.keys {s:SelfL} {pe:Peer} {pol:Policy} {m:List (Prefix × Attrs)} {o:OutS} (h:RelO s pe pol m o):sortPs (keysE m)=keysE o.told:=by
 have h1:(keysE m).Perm (keysE o.told):=(h.perm.map _).symm
 rw[sortPs_perm h1]
 exact sorted_eq (List.mergeSort_perm _ _) (sortPs_sorted (keysE o.told)) (List.Pairwise.imp (fun h=>Nat.le_of_lt h) h.ris)
theorem RelO.nod {s:SelfL} {pe:Peer} {pol:Policy} {m:List (Prefix × Attrs)} {o:OutS} (h:RelO s pe pol m o):NodE m:=(h.perm.map _).nodup_iff.1 h.ris.nod
theorem RelO.get {s:SelfL} {pe:Peer} {pol:Policy} {m:List (Prefix × Attrs)} {o:OutS} (h:RelO s pe pol m o) {i:Nat} (hi:i < o.told.length):getE m o.told[i].1=some o.told[i].2:=
 mem_getE h.nod (h.perm.mem_iff.1 (List.getElem_mem hi))
theorem RelO.len {s:SelfL} {pe:Peer} {pol:Policy} {m:List (Prefix × Attrs)} {o:OutS} (h:RelO s pe pol m o):o.told.length=m.length:=h.perm.length_eq
theorem RelO.at {s:SelfL} {pe:Peer} {pol:Policy} {m:List (Prefix × Attrs)} {o:OutS} (h:RelO s pe pol m o) {i:Nat} (hi:i < o.told.length):rightA o.told[i].2=true:=h.good _ (h.perm.mem_iff.1 (List.getElem_mem hi))
theorem is26_ok {s:SelfL} {pe:Peer} {pol:Policy} {m:List (Prefix × Attrs)} {o:OutS} (hr:RelO s pe pol m o):OutC 18 [.ptr 0 0,encOS o] (cellsOut s pe pol m) (cellsOut s pe pol m) (·=.bool true):=by
 have hso:=sortedO_ok m hr.few
 rw[hr.keys]at hso
 have hlm:=hr.len
 have hm4:=hr.few
 unfold OutC
 refine callV_of (fn:=Go.Proofs.Tryz.f18) (body:=_) tab_ok mixed rfl rfl (by decide) (by simp[Go.Proofs.Tryz.f18]) ?_
 conv=>whnf
 refine callV_out (toldO_ok s pe pol m) rfl (cellsOut_free _ _ _ _) (cellsOut_free _ _ _ _) ⟨.ptr rfl (by omega),trivial⟩ ?_
 rintro v rfl
 refine⟨.fn (by simp) (by intro v hv;simp at hv;subst hv;exact .iptr (by intro v hv;simp at hv;subst hv;exact imapA_free m)),?_⟩
 show _
 conv=>whnf
 refine callV_out (toldO_ok s pe pol m) rfl (cellsOut_free _ _ _ _) (cellsOut_free _ _ _ _) ⟨.ptr rfl (by omega),trivial⟩ ?_
 rintro v rfl
 refine⟨.fn (by simp) (by intro v hv;simp at hv;subst hv;exact .iptr (by intro v hv;simp at hv;subst hv;exact imapA_free m)),?_⟩
 show _
 conv=>whnf
 refine callV_loop [(3,.ptr 1 0),(4,.ptr 2 0),(5,.ptr 3 0)] ⟨rfl,rfl,rfl,trivial⟩ fun asg' body' hasg hbody=>?_
 refine callV_of (fn:=Go.Proofs.Tryz.f49) (body:=_) tab_ok mixed rfl rfl (by decide) (by simp[Go.Proofs.Tryz.f49]) ?_
 conv=>whnf
 refine callV_pure hso ⟨.fr rfl,trivial⟩ ?_
 conv=>whnf
 intro hgl
 have hgl:(keysE o.told).length≤maxLen:=by simpa[gd]using hgl
 conv=>whnf
 refine vcg_loop tab_ok mixed (fun i:{i:Nat // i≤(keysE o.told).length}=>⟨[(0,.yld 4),(1,.iptr true [.imap false (esA m)]),(6,encPs true (keysE o.told)),(7,cI (keysE o.told).length),(8,cI i.1)],[(4,some (.loop 54 [(3,.ptr 1 0),(4,.ptr 2 0),(5,.ptr 3 0)] [13,14] asg' body' .ready none)),(0,varOut s pe pol m),(1,some (.var true 47 (cellsOS o))),(2,some (.var true 4 [.bool false])),(3,some (.var true 3 [cI i.1]))],5⟩) (fun i=>(keysE o.told).length - i.1) ⟨0,by omega⟩ (Wk.i (by repeat' (first|exact LHa|exact LeL.freeV (cellsOut_free s pe pol m)|exact LeL.freeV (cellsOS_free o)|exact .int_of (by simp)|exact .free (.iptr (by intro v hv;simp at hv;subst hv;exact imapA_free m))|exact .A|exact LeL.fr rfl|exact LHb|refine Or.inl ⟨by simp,_,rfl,?_⟩|exact Or.inr ⟨by simp,_,_,_,_,rfl⟩|refine⟨rfl,rfl,rfl,rfl,rfl,rfl,?_⟩|refine⟨?_,?_⟩)) (by omega)) (fun i=>?_)
 obtain⟨i,hi⟩:=i
 conv=>whnf
 split
 ·rename_i hc
  have hc:i < (keysE o.told).length:=by simpa using hc
  have hcl:i < o.told.length:=by simpa[keysE]using hc
  have hkey:(keysE o.told)[i]=o.told[i].1:=by simp[keysE]
  have hget:=hr.get hcl
  have hsm:smallA o.told[i].2:=right_small (hr.at hcl)
  have sm:=ref_same_ok true false o.told[i].2 o.told[i].2
  rw[sameA_refl]at sm
  have hcp:=copy_pure false o.told[i].2 hsm.1 hsm.2.1 hsm.2.2
  conv=>whnf
  refine ixK (idxP hc) ?_
  rw[hkey]
  conv=>whnf
  refine⟨esA_keys _,keyP _,some (encA false o.told[i].2),look_some hget,?_⟩
  conv=>whnf
  refine⟨_,[],fun h nx _=>pureV_pure hcp ⟨.fr rfl,trivial⟩,by simp,?_⟩
  conv=>whnf
  refine⟨by kernel_rfl,?_⟩
  conv=>whnf
  refine roundV_eq tab_ok mixed hasg hbody rfl (by simp) (show 4 < 6 by omega) ?_
  conv=>whnf
  refine⟨rfl,?_⟩
  conv=>whnf
  split
  case' h_1 hh=>exfalso;simp at hh;omega
  conv=>whnf
  refine ixK (idxEn hcl) ?_
  conv=>whnf
  refine neqP o.told[i].1 o.told[i].1 ?_
  rw[show(!decide (o.told[i].1=o.told[i].1))=false by simp]
  conv=>whnf
  refine ixK (idxEn hcl) ?_
  conv=>whnf
  refine⟨_,[],fun h nx _=>pureV_pure sm ⟨.fr rfl,.fr rfl,trivial⟩,by simp,?_⟩
  conv=>whnf
  refine⟨by kernel_rfl,?_⟩
  conv=>whnf
  refine⟨rfl,?_⟩
  conv=>whnf
  exact⟨⟨i + 1,by omega⟩,(Wk.i (by repeat' (first|exact LHa|exact LeL.freeV (cellsOut_free s pe pol m)|exact LeL.freeV (cellsOS_free o)|exact .int_of (wrap64_succ hc hgl)|exact .free (.iptr (by intro v hv;simp at hv;subst hv;exact imapA_free m))|exact .A|exact LeL.fr rfl|exact LHb|refine Or.inl ⟨by simp,_,rfl,?_⟩|exact Or.inr ⟨by simp,_,_,_,_,rfl⟩|refine⟨rfl,rfl,rfl,rfl,rfl,rfl,?_⟩|refine⟨?_,?_⟩)) (by omega)),by simp only;omega⟩
 rename_i hc
 have hc:i=(keysE o.told).length:=by simp at hc;omega
 subst hc
 conv=>whnf
 refine⟨_,_,_,Ends.here,?_⟩
 conv=>whnf
 split
 case' h_2 hh=>exfalso;simp[keysE]at hh
 conv=>whnf
 refine⟨_,[(0,varOut s pe pol m)],fun h nx hrd=>pureV_var (lenO_ok s pe pol m) .int (hrd 0 _ (by simp)) (cellsOut_free s pe pol m) ⟨.ptr rfl (by omega),trivial⟩,by intro b ob hb;simp at hb;obtain⟨rfl,rfl⟩:=hb;rfl,?_⟩
 conv=>whnf
 refine⟨by kernel_rfl,?_⟩
 conv=>whnf
 exact⟨.bool true,[(0,varOut s pe pol m)],1,(Ends.all id [] (by repeat' (first|exact LHa|exact LeL.freeV (cellsOut_free s pe pol m)|exact .bool_of (by simp[keysE,hlm])|exact .A|exact LeL.fr rfl|exact LHb|refine Or.inl ⟨by simp,_,rfl,?_⟩|exact Or.inr ⟨by simp,_,_,_,_,rfl⟩|refine⟨rfl,rfl,rfl,rfl,rfl,rfl,?_⟩|refine⟨?_,?_⟩)) (fun _ _ _ _ h=>h) (fun _ _=>rfl) (by omega) (by simp)),rfl,rfl,rfl⟩
end
section
open Go.Proofs.Tryz (prog)
attribute [local irreducible] CallV RoundV aggK
theorem sortedON_ok (m:List (Prefix × Attrs)) (h0:m=[]) (hb:m.length≤1000):PCon prog 50 [.nilm] (encPs true (sortPs (keysE m))):=by
 refine callV_of (fn:=Go.Proofs.Tryz.f50) (body:=_) tab_ok mixed rfl rfl (by decide) (by simp[Go.Proofs.Tryz.f50]) ?_
 conv=>whnf
 refine callV_of (fn:=Go.Proofs.Tryz.f96) (body:=_) tab_ok mixed rfl rfl (by decide) (by simp[Go.Proofs.Tryz.f96]) ?_
 conv=>whnf
 refine⟨_,_,_,Ends.here,?_⟩
 conv=>whnf
 refine callV_of (fn:=Go.Proofs.Tryz.f95) (body:=_) tab_ok mixed rfl rfl (by decide) (by simp[Go.Proofs.Tryz.f95]) ?_
 conv=>whnf
 refine callV_of (fn:=Go.Proofs.Tryz.f142) (body:=_) tab_ok mixed rfl rfl (by decide) (by simp[Go.Proofs.Tryz.f142]) ?_
 conv=>whnf
 refine callV_of (fn:=Go.Proofs.Tryz.f172) (body:=_) tab_ok mixed rfl rfl (by decide) (by simp[Go.Proofs.Tryz.f172]) ?_
 conv=>whnf
 refine callV_loop [(2,.ptr 1 0)] ⟨rfl,trivial⟩ fun asg' body' hasg hbody=>?_
 refine callV_of (fn:=Go.Proofs.Tryz.f144) (body:=_) tab_ok mixed rfl rfl (by decide) (by simp[Go.Proofs.Tryz.f144]) ?_
 conv=>whnf
 refine vcg_loop tab_ok mixed (fun p:{p:List Prefix × List (Prefix × Attrs) // (p.1 ++ keysE p.2).Perm (keysE m)}=>⟨[(0,.yld 2),(5,.ptr 3 0)],[(2,some (.loop 13 [(2,.ptr 1 0)] [7] asg' body' .ready none)),(1,some (.var true 84 [.osl 4 2 0 p.1.1.length])),(3,some (.iter none (esA p.1.2))),(4,some (.arr true false 31 2 (rowsP p.1.1)))],5⟩) (fun p=>p.1.2.length) ⟨([],m),by simp⟩ ?_ (fun p=>?_)
 ·refine Wk.of id [] ⟨.yld rfl (by omega),.ptr rfl (by omega),trivial⟩ (LeH.of ⟨⟨by omega,.inl ⟨by simp,_,rfl,rfl,rfl,rfl,rfl,rfl,rfl,.ptr rfl (by omega),trivial⟩⟩,⟨by omega,.inl ⟨by simp,_,rfl,id,rfl,.osl0,trivial⟩⟩,⟨by omega,.inl ⟨by simp,_,rfl,LeB.iter (by subst h0;rfl) (by simp)⟩⟩,⟨by omega,.inr ⟨by simp,_,_,_,_,rfl⟩⟩,trivial⟩ (fun _ _ _ _ h=>h) (fun _ _=>rfl) (by omega) (by simp))
 obtain⟨⟨xs,rest⟩,hp⟩:=p
 conv=>whnf
 refine⟨fun h0=>?_,fun k kv hk=>?_⟩
 ·have h0:rest=[]:=by simpa[esA]using h0
  subst h0
  rw[show keysE ([]:List (Prefix × Attrs))=[]from rfl,List.append_nil]at hp
  conv=>whnf
  refine⟨_,_,_,Ends.here,?_⟩
  conv=>whnf
  refine⟨_,_,_,Ends.here,?_⟩
  conv=>whnf
  refine⟨_,_,_,Ends.here,?_⟩
  conv=>whnf
  have hxl:xs.length≤1000:=by
   have h1:xs.length=(keysE m).length:=hp.length_eq
   have h2:(keysE m).length=m.length:=by simp[keysE]
   omega
  refine callV_frame (nx:=5) (n0:=1) (renOf [(0,4)]) (sortF_ok true false xs (by omega)) (by repeat' (first|exact True.intro|exact .osl_of rfl (by omega) rfl|exact .free (.fn (by simp) (by simp))|exact LeB.arrE rfl (rowsP_free _) id id|exact .A|exact LeL.fr rfl|refine⟨?_,?_⟩)) (LeH.of (by repeat' (first|exact LHa|exact .osl_of rfl (by omega) rfl|exact .free (.fn (by simp) (by simp))|exact LeB.arrE rfl (rowsP_free _) id id|exact .A|exact LeL.fr rfl|exact LHb|refine Or.inl ⟨by simp,_,rfl,?_⟩|exact Or.inr ⟨by simp,_,_,_,_,rfl⟩|refine⟨rfl,rfl,rfl,rfl,rfl,rfl,?_⟩|refine⟨?_,?_⟩)) (show ∀b∈([0]:List Nat),∀b'∈([0]:List Nat),(renOf [(0,4)]) b=(renOf [(0,4)]) b'→b=b' by decide) (fun _ h=>by omega) (by omega) (by simp)) (fun b hb=>by match b,hb with|0,_=>exact ne_none_of rfl) (by decide) ?_
  rintro v h' nx' ⟨rfl,rfl,rfl⟩ _
  refine⟨.tup [],[(4,some (.arr true false 31 2 (rowsP (sortPs xs))))],.free (.tup (by simp)),(by repeat' (first|exact True.intro|exact Or.inr ⟨by decide,rfl⟩|exact Or.inl ⟨0,rfl,by omega,_,rfl,RenB.arr (rowsP_free _)⟩|refine⟨?_,?_⟩)),?_⟩
  conv=>whnf
  refine⟨_,_,_,Ends.here,?_⟩
  conv=>whnf
  have hs:sortPs xs=sortPs (keysE m):=sortPs_perm (by simpa using hp)
  exact Ends.pure [4] (LeV.freeze_of (by simp) rfl (by simp[sortPs_len]) (rowsP_free _) (by rw[hs];exact List.take_of_length_le (by simp[sortPs_len,← hs]))) (one_none rfl)
 ·obtain⟨p,hpk,rfl⟩:∃p,rest[k]? = some p∧kv=(encP p.1,encA false p.2):=by
   simp only[esA,List.getElem?_map,Option.map_eq_some_iff]at hk
   obtain⟨p,h1,h2⟩:=hk
   exact⟨p,h1,h2.symm⟩
  conv=>whnf
  subst hasg hbody
  refine roundV_of tab_ok mixed rfl (by simp) (show 2 < 6 by omega) ?_
  conv=>whnf
  have hlen:xs.length + 1≤1000:=by
   have h1:=hp.length_eq
   have h2:(keysE m).length=m.length:=by simp[keysE]
   have h3:k < rest.length:=(List.getElem?_eq_some_iff.1 hpk).1
   simp only[List.length_append,keysE,List.length_map]at h1 h2
   omega
  refine⟨rfl,by first|rfl|(simp;done),by first|rfl|(simp;done),⟨rfl,rfl,rfl,rfl,by decide⟩,by simp[rowsP],⟨by simp[tab,tabOf,nth];omega,by simp;omega⟩,?_⟩
  conv=>whnf
  refine⟨rfl,?_⟩
  conv=>whnf
  have hperm:((xs ++ [p.1])++ keysE (rest.eraseIdx k)).Perm (keysE m):=by
    have h1:(keysE rest)[k]? = some p.1:=by simp[keysE,hpk]
    have h2:keysE (rest.eraseIdx k)=(keysE rest).eraseIdx k:=keys_erase rest k
    rw[h2]
    exact(perm_step h1).trans hp
  refine⟨⟨(xs ++ [p.1],rest.eraseIdx k),hperm⟩,Wk.of (renOf [(4,8)]) [] ⟨.yld rfl (by omega),.ptr rfl (by omega),trivial⟩ (LeH.of ⟨⟨by omega,.inl ⟨by simp,_,rfl,rfl,rfl,rfl,rfl,rfl,rfl,.ptr rfl (by omega),trivial⟩⟩,⟨by omega,.inl ⟨by simp,_,rfl,id,rfl,.osl_of rfl (by omega) (by simp),trivial⟩⟩,⟨by omega,.inl ⟨by simp,_,rfl,LeB.iter (esA_erase rest k) (fun kv h=>esA_free _ kv (List.mem_of_mem_eraseIdx h))⟩⟩,⟨by omega,.inl ⟨by simp,_,rfl,LeB.arrE (by simp[rowsP];exact⟨List.take_of_length_le (by simp),rfl⟩) (fun x hx v hv=>by
   rcases List.mem_append.1 hx with h|h
   ·exact rowsP_free xs x (List.mem_of_mem_take h) v hv
   ·simp at h;subst h;simp at hv;rcases hv with rfl|rfl<;>exact .int) id id⟩⟩,trivial⟩ (show ∀b∈([2,1,3,4]:List Nat),∀b'∈([2,1,3,4]:List Nat),renOf [(4,8)] b=renOf [(4,8)] b'→b=b' by decide) (show ∀b,b < 3→renOf [(4,8)] b=b by decide) (by omega) (by simp)),?_⟩
  show(rest.eraseIdx k).length < rest.length
  have:=(List.getElem?_eq_some_iff.1 hpk).1
  rw[List.length_eraseIdx]
  split<;>omega
theorem RelO.new {s:SelfL} {pe:Peer} {pol:Policy} (h:newO s pe pol=true):RelO s pe pol [] (newOS s pe pol):=by
 rw[newOS,if_pos h]
 exact⟨rfl,rfl,rfl,.refl _,by simp[RisE,keysE],by simp,by simp⟩
def noRt26:Route:=⟨⟨0,0⟩,noA,noPe⟩
theorem makes26_ok (s:SelfL) (pe:Peer) (pol:Policy):PCon prog 6 [encSf s,encPe pe,encPo false pol] (.bool true):=by
 have hrn:=refNew26_ok s pe pol
 have n0:=num26_ok 0
 have n1:=num26_ok 1
 have n2:=num26_ok 2
 cases hn:newO s pe pol with
 | true=>
  have hnew:=newO_ok s pe pol hn
  rw[newOE,hn,if_pos rfl]at hrn
  refine callV_of (fn:=Go.Proofs.Tryz.f6) (body:=_) tab_ok mixed rfl rfl (by decide) (by simp[Go.Proofs.Tryz.f6]) ?_
  conv=>whnf
  intro _
  conv=>whnf
  split
  ·conv=>whnf
   refine callV_pure works26_ok trivial ?_
   conv=>whnf
   exact(Ends.pA)
  conv=>whnf
  refine callV_frame (nx:=4) (n0:=0) id hnew ⟨.fr rfl,.fr rfl,.fr rfl,trivial⟩ (LeH.nil (by omega) (fun _ h=>by omega) (by simp)) (fun b hb=>by omega) (fun b hb=>by omega) ?_
  rintro v h' nx' ⟨rfl,rfl,rfl⟩ _
  refine⟨.tup [.ptr 4 0,.int .i64 0],[(4,varOut s pe pol []),(0,some (.var true 24 (cellsSf s))),(1,some (.var true 26 (cellsPe pe))),(2,some (.var true 29 (cellsPo false pol))),(3,some (.var true 4 [.bool false]))],.tup ⟨.ptr rfl,.free .int,trivial⟩,(by repeat' (first|exact True.intro|exact Or.inr ⟨by decide,rfl⟩|exact Or.inl ⟨0,rfl,by omega,_,rfl,.var (cellsOut_free _ _ _ _)⟩|refine⟨?_,?_⟩)),?_⟩
  conv=>whnf
  refine callV_pure hrn ⟨.fr rfl,.fr rfl,.fr rfl,trivial⟩ ?_
  conv=>whnf
  refine callV_pure (tell_nil []) ⟨.fr rfl,.snil_sl,trivial⟩ ?_
  conv=>whnf
  refine callV_pure (says_nil noRt26) ⟨.fr rfl,.aggL ⟨.fr rfl,.fr rfl,.fr rfl,.snil_sl,.fr rfl,.fr rfl,.fr rfl,.fr rfl,.fr rfl,.snil_sl,.fr rfl,.fr rfl,.fr rfl,.fr rfl,trivial⟩,trivial⟩ ?_
  conv=>whnf
  refine callV_pure toldO_nil ⟨.fr rfl,trivial⟩ ?_
  conv=>whnf
  refine callV_pure toldO_nil ⟨.fr rfl,trivial⟩ ?_
  conv=>whnf
  refine callV_loop [(6,.ptr 3 0)] ⟨rfl,trivial⟩ fun asg' body' hasg hbody=>?_
  refine callV_of (fn:=Go.Proofs.Tryz.f49) (body:=_) tab_ok mixed rfl rfl (by decide) (by simp[Go.Proofs.Tryz.f49]) ?_
  conv=>whnf
  refine callV_pure (sortedON_ok [] rfl (by simp)) ⟨.free .nilm,trivial⟩ ?_
  rw[show sortPs (keysE ([]:List (Prefix × Attrs)))=[]by simp[keysE,sortPs]]
  conv=>whnf
  intro _
  conv=>whnf
  refine vcg_loop tab_ok mixed (fun _:Unit=>⟨[(7,.int .i64 0),(8,.int .i64 0)],[(7,some (.loop 123 [(6,.ptr 3 0)] [51,52] asg' body' .ready none)),(3,some (.var true 4 [.bool false])),(4,varOut s pe pol []),(5,some (.var true 47 (cellsOS (newOS s pe pol)))),(6,some (.var true 35 (cellsA true noA)))],8⟩) (fun _=>0) () (Wk.i (by repeat' (first|exact LHa|exact LeL.freeV (cellsOut_free s pe pol [])|exact LeL.freeV (cellsOS_free _)|exact .A|exact LeL.fr rfl|exact LHb|refine Or.inl ⟨by simp,_,rfl,?_⟩|exact Or.inr ⟨by simp,_,_,_,_,rfl⟩|refine⟨rfl,rfl,rfl,rfl,rfl,rfl,?_⟩|refine⟨?_,?_⟩)) (by omega)) (fun _=>?_)
  conv=>whnf
  refine⟨_,_,_,Ends.here,?_⟩
  conv=>whnf
  refine callV_pure n1 ⟨.fr rfl,trivial⟩ ?_
  conv=>whnf
  refine callV_pure (policyO_nil ⟨[],false⟩) ⟨.fr rfl,.aggL ⟨.snil_sl,.fr rfl,trivial⟩,trivial⟩ ?_
  conv=>whnf
  refine callV_pure n1 ⟨.fr rfl,trivial⟩ ?_
  conv=>whnf
  refine callV_pure clearO_nil ⟨.fr rfl,trivial⟩ ?_
  conv=>whnf
  refine callV_pure n1 ⟨.fr rfl,trivial⟩ ?_
  conv=>whnf
  refine callV_pure lenO_nil ⟨.fr rfl,trivial⟩ ?_
  conv=>whnf
  refine callV_pure copyO_nil ⟨.fr rfl,trivial⟩ ?_
  conv=>whnf
  refine callV_pure sameO_nil ⟨.fr rfl,.fr rfl,trivial⟩ ?_
  conv=>whnf
  refine callV_pure n0 ⟨.fr rfl,trivial⟩ ?_
  conv=>whnf
  refine callV_out (is26_ok (RelO.new hn)) rfl (cellsOut_free _ _ _ _) (cellsOut_free _ _ _ _) ⟨.ptr rfl (by omega),.fr rfl,trivial⟩ ?_
  rintro v rfl
  refine⟨.bool,?_⟩
  show _
  conv=>whnf
  refine callV_out (sameO_l s pe pol []) rfl (cellsOut_free _ _ _ _) (cellsOut_free _ _ _ _) ⟨.ptr rfl (by omega),.fr rfl,trivial⟩ ?_
  rintro v rfl
  refine⟨.bool,?_⟩
  show _
  conv=>whnf
  refine callV_out (sameO_r s pe pol []) rfl (cellsOut_free _ _ _ _) (cellsOut_free _ _ _ _) ⟨.fr rfl,.ptr rfl (by omega),trivial⟩ ?_
  rintro v rfl
  refine⟨.bool,?_⟩
  show _
  conv=>whnf
  refine callV_pure works26_ok trivial ?_
  conv=>whnf
  exact(Ends.pA)
 | false=>
  have hnew:=newO_bad s pe pol hn
  rw[newOE,hn,if_neg (by decide)]at hrn
  refine callV_of (fn:=Go.Proofs.Tryz.f6) (body:=_) tab_ok mixed rfl rfl (by decide) (by simp[Go.Proofs.Tryz.f6]) ?_
  conv=>whnf
  intro _
  conv=>whnf
  split
  ·conv=>whnf
   refine callV_pure works26_ok trivial ?_
   conv=>whnf
   exact(Ends.pA)
  conv=>whnf
  refine callV_pure hnew ⟨.fr rfl,.fr rfl,.fr rfl,trivial⟩ ?_
  conv=>whnf
  refine callV_pure hrn ⟨.fr rfl,.fr rfl,.fr rfl,trivial⟩ ?_
  conv=>whnf
  refine callV_pure (tell_nil []) ⟨.fr rfl,.snil_sl,trivial⟩ ?_
  conv=>whnf
  refine callV_pure (says_nil noRt26) ⟨.fr rfl,.aggL ⟨.fr rfl,.fr rfl,.fr rfl,.snil_sl,.fr rfl,.fr rfl,.fr rfl,.fr rfl,.fr rfl,.snil_sl,.fr rfl,.fr rfl,.fr rfl,.fr rfl,trivial⟩,trivial⟩ ?_
  conv=>whnf
  refine callV_pure toldO_nil ⟨.fr rfl,trivial⟩ ?_
  conv=>whnf
  refine callV_pure toldO_nil ⟨.fr rfl,trivial⟩ ?_
  conv=>whnf
  refine callV_loop [(6,.ptr 3 0)] ⟨rfl,trivial⟩ fun asg' body' hasg hbody=>?_
  refine callV_of (fn:=Go.Proofs.Tryz.f49) (body:=_) tab_ok mixed rfl rfl (by decide) (by simp[Go.Proofs.Tryz.f49]) ?_
  conv=>whnf
  refine callV_pure (sortedON_ok [] rfl (by simp)) ⟨.free .nilm,trivial⟩ ?_
  rw[show sortPs (keysE ([]:List (Prefix × Attrs)))=[]by simp[keysE,sortPs]]
  conv=>whnf
  intro _
  conv=>whnf
  refine vcg_loop tab_ok mixed (fun _:Unit=>⟨[(7,.int .i64 0),(8,.int .i64 0)],[(6,some (.loop 123 [(6,.ptr 3 0)] [51,52] asg' body' .ready none)),(3,some (.var true 4 [.bool false])),(4,some (.var true 47 (cellsOS (newOS s pe pol)))),(5,some (.var true 35 (cellsA true noA)))],7⟩) (fun _=>0) () (Wk.i (by repeat' (first|exact LHa|exact LeL.freeV (cellsOS_free _)|exact .A|exact LeL.fr rfl|exact LHb|refine Or.inl ⟨by simp,_,rfl,?_⟩|exact Or.inr ⟨by simp,_,_,_,_,rfl⟩|refine⟨rfl,rfl,rfl,rfl,rfl,rfl,?_⟩|refine⟨?_,?_⟩)) (by omega)) (fun _=>?_)
  conv=>whnf
  refine⟨_,_,_,Ends.here,?_⟩
  conv=>whnf
  refine callV_pure n1 ⟨.fr rfl,trivial⟩ ?_
  conv=>whnf
  refine callV_pure (policyO_nil ⟨[],false⟩) ⟨.fr rfl,.aggL ⟨.snil_sl,.fr rfl,trivial⟩,trivial⟩ ?_
  conv=>whnf
  refine callV_pure n1 ⟨.fr rfl,trivial⟩ ?_
  conv=>whnf
  refine callV_pure clearO_nil ⟨.fr rfl,trivial⟩ ?_
  conv=>whnf
  refine callV_pure n1 ⟨.fr rfl,trivial⟩ ?_
  conv=>whnf
  refine callV_pure lenO_nil ⟨.fr rfl,trivial⟩ ?_
  conv=>whnf
  refine callV_pure copyO_nil ⟨.fr rfl,trivial⟩ ?_
  conv=>whnf
  refine callV_pure sameO_nil ⟨.fr rfl,.fr rfl,trivial⟩ ?_
  conv=>whnf
  refine callV_pure n2 ⟨.fr rfl,trivial⟩ ?_
  conv=>whnf
  refine callV_pure works26_ok trivial ?_
  conv=>whnf
  exact(Ends.pA)
end
section
open Go.ChangeShapes Go.WideShapes
open Go.Proofs.Tryz (prog)
theorem rep_self:RepOk prog 24 cellsSf:=fun enc w sp fuel cs x h=>by
 have ht:=Go.Proofs.Tryz.underlying24
 obtain⟨xs,n,_,_,hlen,_,_⟩:=DataW.trod_struct ht h
 have hl:cs.length=3:=hlen.trans (by kernel_rfl)
 obtain⟨a,h0,o0⟩:=field_at ht h 0 rfl (rep_u32 Go.Proofs.Tryz.underlying22) rfl (by kernel_rfl)
 obtain⟨b,h1,o1⟩:=field_at ht h 1 rfl (rep_u32 Go.Proofs.Tryz.underlying22) rfl (by kernel_rfl)
 obtain⟨c,h2,o2⟩:=field_at ht h 2 rfl (rep_u32 Go.Proofs.Tryz.underlying22) rfl (by kernel_rfl)
 have j1:=vrs_join (vrs_join (vrs_join vrs_take0 h0 rfl (by omega)) h1 rfl (by omega)) h2 rfl (by omega)
 have k1:=one_join (one_join (one_join (by simp) o0 rfl (by omega)) o1 rfl (by omega)) o2 rfl (by omega)
 rw[List.take_of_length_le (by omega)]at j1 k1
 exact⟨⟨a,b,c⟩,j1,k1⟩
theorem rep_route:RepOk prog 37 (cellsRt false):=fun enc w sp fuel cs x h=>by
 have ht:=Go.Proofs.Tryz.underlying37
 obtain⟨xs,n,_,_,hlen,_,_⟩:=DataW.trod_struct ht h
 have hl:cs.length=14:=hlen.trans (by kernel_rfl)
 obtain⟨p,h0,o0⟩:=field_of ht h (f:=_) (i:=0) rfl rep_prefix
 obtain⟨a,h1,o1⟩:=field_of ht h (f:=_) (i:=1) rfl rep_attrs
 obtain⟨q,h2,o2⟩:=field_of ht h (f:=_) (i:=2) rfl rep_peer
 have hx:prog.cellsOf 31=2:=by kernel_rfl
 have hz:prog.cellsOf 35=8:=by kernel_rfl
 have hy:prog.cellsOf 26=4:=by kernel_rfl
 change vrs (G0 w) w (cellsP p) ((cs.drop 0).take (prog.cellsOf 31))at h0
 change ∀u∈(cs.drop 0).take (prog.cellsOf 31),u.oneCell'=true at o0
 change vrs (G0 w) w (cellsA false a) ((cs.drop 2).take (prog.cellsOf 35))at h1
 change ∀u∈(cs.drop 2).take (prog.cellsOf 35),u.oneCell'=true at o1
 change vrs (G0 w) w (cellsPe q) ((cs.drop 10).take (prog.cellsOf 26))at h2
 change ∀u∈(cs.drop 10).take (prog.cellsOf 26),u.oneCell'=true at o2
 rw[hx,List.drop_zero]at h0 o0
 rw[hz]at h1 o1
 rw[hy,List.take_of_length_le (by rw[List.length_drop];omega)]at h2 o2
 have e:cs.take 2 ++ (cs.drop 2).take 8 ++ cs.drop 10=cs:=by
  have e1:(cs.drop 2).take 8 ++ (cs.drop 2).drop 8=cs.drop 2:=List.take_append_drop 8 _
  rw[List.drop_drop]at e1
  rw[List.append_assoc,e1,List.take_append_drop]
 refine⟨⟨p,a,q⟩,?_,?_⟩
 ·have:=(h0.append h1).append h2
  rw[e]at this
  exact this
 ·intro v hv
  rw[← e]at hv
  rcases List.mem_append.1 hv with hv|hv
  ·rcases List.mem_append.1 hv with hv|hv
   ·exact o0 v hv
   ·exact o1 v hv
  ·exact o2 v hv
theorem arg_self:ArgOk prog 24 encSf:=arg_struct Go.Proofs.Tryz.underlying24 rep_self
theorem arg_route:ArgOk prog 37 (encRt false):=arg_struct Go.Proofs.Tryz.underlying37 rep_route
theorem read_self:prog.readableRec 24=true∧24 < prog.types.size:=⟨by kernel_rfl,of_decide_eq_true (by kernel_rfl)⟩
theorem read_route:prog.readableRec 37=true∧37 < prog.types.size:=⟨by kernel_rfl,of_decide_eq_true (by kernel_rfl)⟩
end
end Go.Proofs.YteogfjpaljbkoaaGreat
