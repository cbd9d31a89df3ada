/- What closed calls yield, told by the evaluator. No condition. -/
import Derived.Test.YtjeiboididfgmaaGreatDoorRE
set_option maxRecDepth 100000
namespace Go.V
open Go
theorem told_f18:yields C0 3000 33 [.agg [.int 4,.int 0,.str ⟨#[]⟩,.str ⟨#[]⟩,.list [.str ⟨#[97]⟩],.list [.agg [.int 4,.int 0,.str ⟨#[]⟩,.str ⟨#[]⟩,.list [.str ⟨#[98]⟩],.list [.agg [.int 5,.int 0,.str ⟨#[]⟩,.str ⟨#[]⟩,.nil0,.list [.agg [.int 0,.int 0,.str ⟨#[97]⟩,.str ⟨#[]⟩,.nil0,.nil0,.nil0],.agg [.int 0,.int 0,.str ⟨#[118,48]⟩,.str ⟨#[]⟩,.nil0,.nil0,.nil0]],.nil0]],.nil0]],.nil0]] (.tup [.agg [.int 4,.int 0,.str ⟨#[]⟩,.str ⟨#[]⟩,.list [.str ⟨#[118,49]⟩],.list [.agg [.int 4,.int 0,.str ⟨#[]⟩,.str ⟨#[]⟩,.list [.str ⟨#[118,50]⟩],.list [.agg [.int 5,.int 0,.str ⟨#[]⟩,.str ⟨#[]⟩,.nil0,.list [.agg [.int 0,.int 0,.str ⟨#[118,49]⟩,.str ⟨#[]⟩,.nil0,.nil0,.nil0],.agg [.int 0,.int 0,.str ⟨#[118,48]⟩,.str ⟨#[]⟩,.nil0,.nil0,.nil0]],.nil0]],.nil0]],.nil0],.int 0])=true:=by kernel_rfl
theorem told_f19:yields C0 3000 35 [.agg [.int 4,.int 0,.str ⟨#[]⟩,.str ⟨#[]⟩,.list [.str ⟨#[97]⟩],.list [.agg [.int 4,.int 0,.str ⟨#[]⟩,.str ⟨#[]⟩,.list [.str ⟨#[97]⟩],.list [.agg [.int 0,.int 0,.str ⟨#[97]⟩,.str ⟨#[]⟩,.nil0,.nil0,.nil0]],.nil0]],.nil0]] (.tup [.agg [.int 4,.int 0,.str ⟨#[]⟩,.str ⟨#[]⟩,.list [.str ⟨#[97]⟩],.list [.agg [.int 4,.int 0,.str ⟨#[]⟩,.str ⟨#[]⟩,.list [.str ⟨#[97,48]⟩],.list [.agg [.int 0,.int 0,.str ⟨#[97,48]⟩,.str ⟨#[]⟩,.nil0,.nil0,.nil0]],.nil0]],.nil0],.int 0])=true:=by kernel_rfl
end Go.V
