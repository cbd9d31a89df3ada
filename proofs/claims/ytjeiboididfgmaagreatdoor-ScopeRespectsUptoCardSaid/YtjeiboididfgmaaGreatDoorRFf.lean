/- What closed calls yield, told by the evaluator. No condition. -/
import Derived.Test.YtjeiboididfgmaaGreatDoorRE
set_option maxRecDepth 100000
namespace Go.V
open Go
theorem told_f15:yields C0 3000 28 [.agg [.int 6,.int 0,.str ⟨#[]⟩,.str ⟨#[]⟩,.list [.str ⟨#[120]⟩],.list [.agg [.int 0,.int 0,.str ⟨#[120]⟩,.str ⟨#[]⟩,.nil0,.nil0,.nil0],.agg [.int 0,.int 0,.str ⟨#[120]⟩,.str ⟨#[]⟩,.nil0,.nil0,.nil0]],.nil0],.str ⟨#[120]⟩,.agg [.int 1,.int 1,.str ⟨#[]⟩,.str ⟨#[]⟩,.nil0,.nil0,.nil0]] (.tup [.agg [.int 6,.int 0,.str ⟨#[]⟩,.str ⟨#[]⟩,.list [.str ⟨#[120]⟩],.list [.agg [.int 1,.int 1,.str ⟨#[]⟩,.str ⟨#[]⟩,.nil0,.nil0,.nil0],.agg [.int 0,.int 0,.str ⟨#[120]⟩,.str ⟨#[]⟩,.nil0,.nil0,.nil0]],.nil0],.int 0])=true:=by kernel_rfl
theorem told_f16:yields C0 3000 31 [.agg [.int 4,.int 0,.str ⟨#[]⟩,.str ⟨#[]⟩,.list [.str ⟨#[97]⟩],.list [.agg [.int 0,.int 0,.str ⟨#[97]⟩,.str ⟨#[]⟩,.nil0,.nil0,.nil0]],.nil0],.agg [.int 4,.int 0,.str ⟨#[]⟩,.str ⟨#[]⟩,.list [.str ⟨#[97]⟩],.list [.agg [.int 0,.int 0,.str ⟨#[99]⟩,.str ⟨#[]⟩,.nil0,.nil0,.nil0]],.nil0]] (.tup [.bool false,.int 0])=true:=by kernel_rfl
theorem told_f17:yields C0 3000 31 [.agg [.int 4,.int 0,.str ⟨#[]⟩,.str ⟨#[]⟩,.list [.str ⟨#[97]⟩],.list [.agg [.int 0,.int 0,.str ⟨#[97]⟩,.str ⟨#[]⟩,.nil0,.nil0,.nil0]],.nil0],.agg [.int 4,.int 0,.str ⟨#[]⟩,.str ⟨#[]⟩,.list [.str ⟨#[98]⟩],.list [.agg [.int 0,.int 0,.str ⟨#[98]⟩,.str ⟨#[]⟩,.nil0,.nil0,.nil0]],.nil0]] (.tup [.bool true,.int 0])=true:=by kernel_rfl
end Go.V
